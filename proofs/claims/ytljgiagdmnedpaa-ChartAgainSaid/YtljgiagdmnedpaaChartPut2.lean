/-
chart.Put, its four ways. (Printed by gen_chartput.py.)
-/
import Derived.Test.YtljgiagdmnedpaaChartPut
import Derived.BigRegion
import Derived.RegionTactic
namespace Go.Proofs.Ytljgiagdmnedpaa.Tape_
open Go.RowKit Nat_ Frac_

/-- A row of puts, or the error of no room. -/
def RunR (w : World) (M : Nat) (F : Nat → Prop) (B pars : Nat) (L : List Key) (fs : List (List Nat → Key)) (tell : List Nat → Value) (e : Ending) (w' : World) : Prop :=
  (∃ rs L' F', runS B L [] fs = some (rs, L') ∧ e = .returned (tell rs) ∧ Mkr w' M F' B pars L' ∧ Sp F w F' w') ∨
  (runS B L [] fs = none ∧ e = .returned (.tuple #[.int .i64 0, .int .i64 0, .int .i64 171]) ∧ ∃ F' L', Mkr w' M F' B pars L' ∧ Sp F w F' w')
theorem Mkr.far {w : World} {M : Nat} {F : Nat → Prop} {B pars : Nat} {L : List Key} (h : Mkr w M F B pars L) (g i : Nat) (v : Value) (hg : ¬ F g) : Mkr (w.setCell ⟨g, i, none⟩ v) M F B pars L :=
  h.same (by rw [World.size_setCell]; exact Nat.le_refl _) fun k hk => Below.heap_setCell w _ _ k (fun (e : k = g) => hg (e ▸ hk))
theorem Sp.far {F F' : Nat → Prop} {w w' : World} (h : Sp F w F' w') (g i : Nat) (v : Value) (hg : w.heap.size ≤ g) : Sp F w F' (w'.setCell ⟨g, i, none⟩ v) :=
  ⟨h.os, h.tape, h.output, by rw [World.size_setCell]; exact h.size, fun k hk hn => (Below.heap_setCell w' _ _ k (fun (e : k = g) => absurd hk (by omega))).trans (h.block k hk hn), h.foot⟩
/-- The boxes of the three named results are not the maker's. -/
theorem box_far {F F' : Nat → Prop} {w W V : World} {g : Nat} (hs : Sp F W F' V) (hF : ∀ k, F k → k < w.heap.size) (h1 : w.heap.size ≤ g) (h2 : g < W.heap.size) : ¬ F' g := fun h => by
  rcases hs.foot g h with h3 | h3
  · have := hF g h3
    omega
  · omega
theorem fin3 {F F' : Nat → Prop} {w W V : World} {M B pars : Nat} {L' : List Key} (X : Nat) (a b c : Value) (hm : Mkr V M F' B pars L') (hs : Sp F W F' V) (hb : Below w.heap.size w W) (hF : ∀ k, F k → k < w.heap.size) (h1 : w.heap.size ≤ X) (h2 : X + 2 < W.heap.size) :
    Mkr (((V.setCell ⟨X, 0, none⟩ a).setCell ⟨X + 1, 0, none⟩ b).setCell ⟨X + 2, 0, none⟩ c) M F' B pars L' ∧ Sp F w F' (((V.setCell ⟨X, 0, none⟩ a).setCell ⟨X + 1, 0, none⟩ b).setCell ⟨X + 2, 0, none⟩ c) :=
  ⟨((hm.far X 0 a (box_far hs hF h1 (by omega))).far (X + 1) 0 b (box_far hs hF (by omega) (by omega))).far (X + 2) 0 c (box_far hs hF (by omega) h2),
   ((((Sp.of_below hb).trans hs).far X 0 a h1).far (X + 1) 0 b (by omega)).far (X + 2) 0 c (by omega)⟩
set_option maxRecDepth 100000 in
set_option maxHeartbeats 4000000 in
theorem put_free (M : Nat) (F : Nat → Prop) (B pars : Nat) (L : List Key) (u : Nat) (w : World) (h : Mkr w M F B pars L) (hu : u < L.length) :
    Calls Try.prog 9 #[.pointer (some ⟨M, 0, none⟩), .int .i64 (u : Int), .int .i64 (-1), .int .i64 (-1)] w (RunR w M F B pars L ([fun _ => numK 0]) (fun r => .tuple #[.int .i64 (u : Int), .int .i64 ((r.getD 0 0 : Nat) : Int), .int .i64 0])) := by
  have hmf : ∀ (fn : Fn) (first cap : Array Value) (w : World), (Instr.makeFunc fn first cap).run Try.prog w = .ok (.func fn first cap) w := fun _ _ _ _ => rfl
  obtain ⟨W, hW⟩ : ∃ W, (((w.alloc (.cells #[.int .i64 0] 3)).alloc (.cells #[.int .i64 0] 3)).alloc (.cells #[.int .i64 0] 24)).alloc (.cells #[.pointer (some ⟨M, 0, none⟩)] 56) = W := ⟨_, rfl⟩
  obtain ⟨X, hX⟩ : ∃ X, w.heap.size = X := ⟨_, rfl⟩
  have hbw : Below w.heap.size w W := by rw [← hW]; exact ((((Below.refl w.heap.size w).alloc (Nat.le_refl _) _).alloc (by simp) _).alloc (by simp; omega) _).alloc (by simp; omega) _
  have kx : Blk W X 3 [.int .i64 0] := by rw [← hW]; exact (((blk_new _ _ [_] _ hX).alloc _).alloc _).alloc _
  have kj : Blk W (X + 1) 3 [.int .i64 0] := by rw [← hW]; exact ((blk_new _ _ [_] _ (by simp [hX])).alloc _).alloc _
  have ke : Blk W (X + 2) 24 [.int .i64 0] := by rw [← hW]; exact (blk_new _ _ [_] _ (by simp [hX])).alloc _
  have kp : Blk W (X + 3) 56 [.pointer (some ⟨M, 0, none⟩)] := by rw [← hW]; exact blk_new _ _ [_] _ (by simp [hX])
  have C1 := Lib.hid (one_bad M F B pars L W (h.below hbw))
  have HW := Lib.hid (And.intro hW hbw)
  have HK := Lib.hid (And.intro kx (And.intro kj (And.intro ke kp)))
  have HM := Lib.hid (And.intro h (And.intro hX hu))
  have hun : ¬ (L.length ≤ u) := by omega
  clear hW hbw kx kj ke kp h
  go_enter_defers Try.func9, Try.ntmps9
  go_wp2_with fail
  rw [HW.out.1]
  refine C1.out.mono ?_
  rintro e W1 ⟨rfl, hb1⟩
  have hB1 := HW.out.2.trans (hb1.mono HW.out.2.size)
  have hm1 := HM.out.1.below hB1
  have k1x := HK.out.1.below hb1 HK.out.1.lt
  have k1j := HK.out.2.1.below hb1 HK.out.2.1.lt
  have k1e := HK.out.2.2.1.below hb1 HK.out.2.2.1.lt
  have k1p := HK.out.2.2.2.below hb1 HK.out.2.2.2.lt
  have H0 := Lib.hid (St.mk (w := W1) (F := F) (L := L) (fs := [fun _ => numK 0]) (rs := []) (rest := [fun _ => numK 0]) rfl hm1 (Sp.refl F W1) k1p (show ¬ F (X + 3) from fun hF => absurd (HM.out.1.has.2 (X + 3) hF) (by have := HM.out.2.1; omega)) (by simp) (Nat.le_refl _))
  have KB := Lib.hid (And.intro k1x (And.intro k1j (And.intro k1e hB1)))
  have HF := Lib.hid (And.intro HM.out.1.has.2 (And.intro (show w.heap.size ≤ X by have := HM.out.2.1; omega) (show X + 2 < W1.heap.size from k1e.lt)))
  have CL := Lib.hid (len_ok M F B pars L W1 hm1)
  have p0 := k1p.cell 0
  simp only [List.getElem?_cons_zero] at p0
  clear hb1 hB1 hm1 k1x k1j k1e k1p C1 HW HK
  go_wp2_with (go_at_call 10; refine CL.out.mono ?_; rintro e wl ⟨rfl, rfl⟩)
  refine (num_pen M _ B pars _ 0 _ H0.out.mkr (by decide) (by decide)).mono ?_
  rintro e V1 (⟨r0, L1, F1, q1, rfl, q3, q4⟩ | ⟨q1, rfl, q3, q4⟩)
  · have H1 := Lib.hid (H0.out.next rfl q1 q3 q4)
    clear q1 q3 q4
    obtain ⟨qr, qm, qs, -, -, -, -⟩ := H1.out
    have bx := qs.blk KB.out.1 (fun hF => absurd (HF.out.1 X hF) (by have := HF.out.2.1; omega))
    have bj := qs.blk KB.out.2.1 (fun hF => absurd (HF.out.1 (X + 1) hF) (by have := HF.out.2.1; omega))
    have be := qs.blk KB.out.2.2.1 (fun hF => absurd (HF.out.1 (X + 2) hF) (by have := HF.out.2.1; omega))
    have hfin := fin3 X (.int .i64 (u : Int)) (.int .i64 (r0 : Int)) (.int .i64 0) qm qs KB.out.2.2.2 HF.out.1 HF.out.2.1 HF.out.2.2
    have x0 := bx.cell 0
    have j0 := (bj.far (p := ⟨X, 0, none⟩) (by show X + 1 ≠ X; omega) (.int .i64 (u : Int))).cell 0
    have e0 := ((be.far (p := ⟨X, 0, none⟩) (by show X + 2 ≠ X; omega) (.int .i64 (u : Int))).far (p := ⟨X + 1, 0, none⟩) (by show X + 2 ≠ X + 1; omega) (.int .i64 (r0 : Int))).cell 0
    have fx := bx.frozen 0 (by simp)
    have fj := (bj.far (p := ⟨X, 0, none⟩) (by show X + 1 ≠ X; omega) (.int .i64 (u : Int))).frozen 0 (by simp)
    have fe := ((be.far (p := ⟨X, 0, none⟩) (by show X + 2 ≠ X; omega) (.int .i64 (u : Int))).far (p := ⟨X + 1, 0, none⟩) (by show X + 2 ≠ X + 1; omega) (.int .i64 (r0 : Int))).frozen 0 (by simp)
    have h3 := (((bx.set_ 0 (.int .i64 (u : Int))).far (p := ⟨X + 1, 0, none⟩) (by show X ≠ X + 1; omega) (.int .i64 (r0 : Int))).far (p := ⟨X + 2, 0, none⟩) (by show X ≠ X + 2; omega) (.int .i64 0)).cell 0
    have h4 := (((bj.far (p := ⟨X, 0, none⟩) (by show X + 1 ≠ X; omega) (.int .i64 (u : Int))).set_ 0 (.int .i64 (r0 : Int))).far (p := ⟨X + 2, 0, none⟩) (by show X + 1 ≠ X + 2; omega) (.int .i64 0)).cell 0
    have h5 := (((be.far (p := ⟨X, 0, none⟩) (by show X + 2 ≠ X; omega) (.int .i64 (u : Int))).far (p := ⟨X + 1, 0, none⟩) (by show X + 2 ≠ X + 1; omega) (.int .i64 (r0 : Int))).set_ 0 (.int .i64 0)).cell 0
    simp only [List.set_cons_zero, List.getElem?_cons_zero] at x0 j0 e0 h3 h4 h5
    have HEND := Lib.hid (And.intro hfin (And.intro h3 (And.intro h4 h5)))
    have HRUN := Lib.hid (qr)
    clear hfin h3 h4 h5 bx bj be qm qs qr p0
    go_wp2_with fail
    refine leaves_cons (f := 18) (args := #[.pointer (some ⟨X, 0, none⟩), .pointer (some ⟨X + 1, 0, none⟩), .pointer (some ⟨X + 2, 0, none⟩)]) (by simp) (by simp [go_sem]) ?_
    refine (catch_idle _ _ _ _).mono ?_
    rintro e u' w'' ⟨rfl, rfl, rfl⟩
    refine ⟨.tuple #[.int .i64 (u : Int), .int .i64 (r0 : Int), .int .i64 0], by simp [results, Try.results9, go_sem, HEND.out.2.1, HEND.out.2.2.1, HEND.out.2.2.2], ?_⟩
    exact .inl ⟨[r0], L1, F1, HRUN.out, rfl, HEND.out.1⟩
  · have HE := Lib.hid (H0.out.fail (tell := fun _ => .tuple #[]) rfl q1 q3 q4)
    clear q1 q3 q4
    go_wp2_with fail
    rcases HE.out with ⟨_, _, _, _, q, _, _⟩ | ⟨qr, -, Fx, Lx, qm, qs⟩
    · cases q
    have bx := qs.blk KB.out.1 (fun hF => absurd (HF.out.1 X hF) (by have := HF.out.2.1; omega))
    have bj := qs.blk KB.out.2.1 (fun hF => absurd (HF.out.1 (X + 1) hF) (by have := HF.out.2.1; omega))
    have be := qs.blk KB.out.2.2.1 (fun hF => absurd (HF.out.1 (X + 2) hF) (by have := HF.out.2.1; omega))
    have hfin := fin3 X (.int .i64 0) (.int .i64 0) (.int .i64 171) qm qs KB.out.2.2.2 HF.out.1 HF.out.2.1 HF.out.2.2
    have h3 := (((bx.set_ 0 (.int .i64 0)).far (p := ⟨X + 1, 0, none⟩) (by show X ≠ X + 1; omega) (.int .i64 0)).far (p := ⟨X + 2, 0, none⟩) (by show X ≠ X + 2; omega) (.int .i64 171)).cell 0
    have h4 := (((bj.far (p := ⟨X, 0, none⟩) (by show X + 1 ≠ X; omega) (.int .i64 0)).set_ 0 (.int .i64 0)).far (p := ⟨X + 2, 0, none⟩) (by show X + 1 ≠ X + 2; omega) (.int .i64 171)).cell 0
    have h5 := (((be.far (p := ⟨X, 0, none⟩) (by show X + 2 ≠ X; omega) (.int .i64 0)).far (p := ⟨X + 1, 0, none⟩) (by show X + 2 ≠ X + 1; omega) (.int .i64 0)).set_ 0 (.int .i64 171)).cell 0
    simp only [List.set_cons_zero, List.getElem?_cons_zero] at h3 h4 h5
    refine leaves_cons (f := 18) (args := #[.pointer (some ⟨X, 0, none⟩), .pointer (some ⟨X + 1, 0, none⟩), .pointer (some ⟨X + 2, 0, none⟩)]) (by simp [boom]) (by simp [go_sem]) ?_
    refine (catch_boom X (X + 1) (X + 2) _ _ _ _ bx bj be (by omega) (by omega) (by omega)).mono ?_
    rintro e u' w'' ⟨rfl, rfl, rfl⟩
    refine ⟨.tuple #[.int .i64 0, .int .i64 0, .int .i64 171], by simp [results, Try.results9, go_sem, h3, h4, h5], ?_⟩
    exact .inr ⟨qr, rfl, Fx, Lx, hfin⟩
set_option maxRecDepth 100000 in
set_option maxHeartbeats 4000000 in
theorem put_both (M : Nat) (F : Nat → Prop) (B pars : Nat) (L : List Key) (u lower upper : Nat) (w : World) (h : Mkr w M F B pars L) (hu : u < L.length) (hlo : lower < L.length) (hup : upper < L.length) :
    Calls Try.prog 9 #[.pointer (some ⟨M, 0, none⟩), .int .i64 (u : Int), .int .i64 (lower : Int), .int .i64 (upper : Int)] w (RunR w M F B pars L (fsBoth u lower upper) (fun r => .tuple #[.int .i64 ((r.getD 7 0 : Nat) : Int), .int .i64 ((r.getD 13 0 : Nat) : Int), .int .i64 0])) := by
  have hmf : ∀ (fn : Fn) (first cap : Array Value) (w : World), (Instr.makeFunc fn first cap).run Try.prog w = .ok (.func fn first cap) w := fun _ _ _ _ => rfl
  obtain ⟨W, hW⟩ : ∃ W, (((w.alloc (.cells #[.int .i64 0] 3)).alloc (.cells #[.int .i64 0] 3)).alloc (.cells #[.int .i64 0] 24)).alloc (.cells #[.pointer (some ⟨M, 0, none⟩)] 56) = W := ⟨_, rfl⟩
  obtain ⟨X, hX⟩ : ∃ X, w.heap.size = X := ⟨_, rfl⟩
  have hbw : Below w.heap.size w W := by rw [← hW]; exact ((((Below.refl w.heap.size w).alloc (Nat.le_refl _) _).alloc (by simp) _).alloc (by simp; omega) _).alloc (by simp; omega) _
  have kx : Blk W X 3 [.int .i64 0] := by rw [← hW]; exact (((blk_new _ _ [_] _ hX).alloc _).alloc _).alloc _
  have kj : Blk W (X + 1) 3 [.int .i64 0] := by rw [← hW]; exact ((blk_new _ _ [_] _ (by simp [hX])).alloc _).alloc _
  have ke : Blk W (X + 2) 24 [.int .i64 0] := by rw [← hW]; exact (blk_new _ _ [_] _ (by simp [hX])).alloc _
  have kp : Blk W (X + 3) 56 [.pointer (some ⟨M, 0, none⟩)] := by rw [← hW]; exact blk_new _ _ [_] _ (by simp [hX])
  have C1 := Lib.hid (one_bad M F B pars L W (h.below hbw))
  have HW := Lib.hid (And.intro hW hbw)
  have HK := Lib.hid (And.intro kx (And.intro kj (And.intro ke kp)))
  have HM := Lib.hid (And.intro h (And.intro hX hu))
  have hun : ¬ (L.length ≤ u) := by omega
  have hl1 : ¬ ((lower : Int) < -1) := by omega
  have hl2 : ¬ ((upper : Int) < -1) := by omega
  have hl3 : ¬ ((lower : Int) < 0) := by omega
  have hl4 : ¬ ((upper : Int) < 0) := by omega
  have HLU := Lib.hid (And.intro hlo hup)
  clear hlo hup
  clear hW hbw kx kj ke kp h
  go_enter_defers Try.func9, Try.ntmps9
  go_wp2_with fail
  rw [HW.out.1]
  refine C1.out.mono ?_
  rintro e W1 ⟨rfl, hb1⟩
  have hB1 := HW.out.2.trans (hb1.mono HW.out.2.size)
  have hm1 := HM.out.1.below hB1
  have k1x := HK.out.1.below hb1 HK.out.1.lt
  have k1j := HK.out.2.1.below hb1 HK.out.2.1.lt
  have k1e := HK.out.2.2.1.below hb1 HK.out.2.2.1.lt
  have k1p := HK.out.2.2.2.below hb1 HK.out.2.2.2.lt
  have H0 := Lib.hid (St.mk (w := W1) (F := F) (L := L) (fs := fsBoth u lower upper) (rs := []) (rest := fsBoth u lower upper) rfl hm1 (Sp.refl F W1) k1p (show ¬ F (X + 3) from fun hF => absurd (HM.out.1.has.2 (X + 3) hF) (by have := HM.out.2.1; omega)) (by simp) (Nat.le_refl _))
  have KB := Lib.hid (And.intro k1x (And.intro k1j (And.intro k1e hB1)))
  have HF := Lib.hid (And.intro HM.out.1.has.2 (And.intro (show w.heap.size ≤ X by have := HM.out.2.1; omega) (show X + 2 < W1.heap.size from k1e.lt)))
  have CL := Lib.hid (len_ok M F B pars L W1 hm1)
  have p0 := k1p.cell 0
  simp only [List.getElem?_cons_zero] at p0
  clear hb1 hB1 hm1 k1x k1j k1e k1p C1 HW HK
  go_wp2_with (go_at_call 10; refine CL.out.mono ?_; rintro e wl ⟨rfl, rfl⟩)
  refine (both_pen M _ B pars _ u lower upper _ H0.out.mkr HM.out.2.2 HLU.out.1 HLU.out.2).mono ?_
  rintro e V1 (⟨rs, L1, F1, q1, rfl, qm, qs⟩ | ⟨q1, rfl, F1, L1, q3, q4⟩)
  · obtain ⟨r7, hr7⟩ : ∃ r, rs.getD 7 0 = r := ⟨_, rfl⟩
    obtain ⟨r13, hr13⟩ : ∃ r, rs.getD 13 0 = r := ⟨_, rfl⟩
    have HR := Lib.hid (And.intro hr7 hr13)
    dsimp only
    rw [hr7, hr13]
    clear hr7 hr13
    have bx := qs.blk KB.out.1 (fun hF => absurd (HF.out.1 X hF) (by have := HF.out.2.1; omega))
    have bj := qs.blk KB.out.2.1 (fun hF => absurd (HF.out.1 (X + 1) hF) (by have := HF.out.2.1; omega))
    have be := qs.blk KB.out.2.2.1 (fun hF => absurd (HF.out.1 (X + 2) hF) (by have := HF.out.2.1; omega))
    have u0 := bx.cell 0
    have u1 := (bj.far (p := ⟨X, 0, none⟩) (by show X + 1 ≠ X; omega) (.int .i64 (r7 : Int))).cell 0
    have v0 := bx.frozen 0 (by simp)
    have v1 := (bj.far (p := ⟨X, 0, none⟩) (by show X + 1 ≠ X; omega) (.int .i64 (r7 : Int))).frozen 0 (by simp)
    simp only [List.getElem?_cons_zero] at u0 u1
    have bx := ((bx.set_ 0 (.int .i64 (r7 : Int))).far (p := ⟨X + 1, 0, none⟩) (by show X ≠ X + 1; omega) (.int .i64 (r13 : Int)))
    have bj := ((bj.far (p := ⟨X, 0, none⟩) (by show X + 1 ≠ X; omega) (.int .i64 (r7 : Int))).set_ 0 (.int .i64 (r13 : Int)))
    have be := ((be.far (p := ⟨X, 0, none⟩) (by show X + 2 ≠ X; omega) (.int .i64 (r7 : Int))).far (p := ⟨X + 1, 0, none⟩) (by show X + 2 ≠ X + 1; omega) (.int .i64 (r13 : Int)))
    have hf := qs.foot
    have hfar : ∀ g, w.heap.size ≤ g → g < wl.heap.size → ¬ F1 g := fun g => box_far qs HF.out.1
    have qm := ((qm.far X 0 (.int .i64 (r7 : Int)) (hfar X HF.out.2.1 (by have := HF.out.2.2; omega))).far (X + 1) 0 (.int .i64 (r13 : Int)) (hfar (X + 1) (by have := HF.out.2.1; omega) (by have := HF.out.2.2; omega)))
    have hsw := (((Sp.of_below (F := F) KB.out.2.2.2).trans qs).far X 0 (.int .i64 (r7 : Int)) HF.out.2.1).far (X + 1) 0 (.int .i64 (r13 : Int)) (by have := HF.out.2.1; omega)
    obtain ⟨V2, hV2⟩ : ∃ V2, (V1.setCell ⟨X, 0, none⟩ (.int .i64 (r7 : Int))).setCell ⟨X + 1, 0, none⟩ (.int .i64 (r13 : Int)) = V2 := ⟨_, rfl⟩
    rw [hV2] at bx bj be qm hsw
    have HV2 := Lib.hid hV2
    have HBX := Lib.hid (And.intro bx (And.intro bj (And.intro be (And.intro qm (And.intro hsw hfar)))))
    have HR1 := Lib.hid q1
    clear hV2 bx bj be qm hsw hfar hf qs q1 p0
    go_wp2_with fail
    rw [HV2.out]
    clear u0 u1 v0 v1
    obtain ⟨bx, bj, be, qm, hsw, hfar⟩ := HBX.out
    simp only [List.set_cons_zero] at bx bj be
    have x0 := bx.cell 0
    have j0 := bj.cell 0
    have j1 := (bj.far (p := ⟨X, 0, none⟩) (by show X + 1 ≠ X; omega) (.int .i64 (r7 : Int))).cell 0
    have e1 := ((be.far (p := ⟨X, 0, none⟩) (by show X + 2 ≠ X; omega) (.int .i64 (r7 : Int))).far (p := ⟨X + 1, 0, none⟩) (by show X + 2 ≠ X + 1; omega) (.int .i64 (r13 : Int))).cell 0
    have fx := bx.frozen 0 (by simp)
    have fj := (bj.far (p := ⟨X, 0, none⟩) (by show X + 1 ≠ X; omega) (.int .i64 (r7 : Int))).frozen 0 (by simp)
    have fe := ((be.far (p := ⟨X, 0, none⟩) (by show X + 2 ≠ X; omega) (.int .i64 (r7 : Int))).far (p := ⟨X + 1, 0, none⟩) (by show X + 2 ≠ X + 1; omega) (.int .i64 (r13 : Int))).frozen 0 (by simp)
    have h3 := (((bx.set_ 0 (.int .i64 (r7 : Int))).far (p := ⟨X + 1, 0, none⟩) (by show X ≠ X + 1; omega) (.int .i64 (r13 : Int))).far (p := ⟨X + 2, 0, none⟩) (by show X ≠ X + 2; omega) (.int .i64 0)).cell 0
    have h4 := (((bj.far (p := ⟨X, 0, none⟩) (by show X + 1 ≠ X; omega) (.int .i64 (r7 : Int))).set_ 0 (.int .i64 (r13 : Int))).far (p := ⟨X + 2, 0, none⟩) (by show X + 1 ≠ X + 2; omega) (.int .i64 0)).cell 0
    have h5 := (((be.far (p := ⟨X, 0, none⟩) (by show X + 2 ≠ X; omega) (.int .i64 (r7 : Int))).far (p := ⟨X + 1, 0, none⟩) (by show X + 2 ≠ X + 1; omega) (.int .i64 (r13 : Int))).set_ 0 (.int .i64 0)).cell 0
    simp only [List.set_cons_zero, List.getElem?_cons_zero] at x0 j0 j1 e1 h3 h4 h5
    have hm3 := ((qm.far X 0 (.int .i64 (r7 : Int)) (hfar X HF.out.2.1 (by have := HF.out.2.2; omega))).far (X + 1) 0 (.int .i64 (r13 : Int)) (hfar (X + 1) (by have := HF.out.2.1; omega) (by have := HF.out.2.2; omega))).far (X + 2) 0 (.int .i64 0) (hfar (X + 2) (by have := HF.out.2.1; omega) HF.out.2.2)
    have hs3 := ((hsw.far X 0 (.int .i64 (r7 : Int)) HF.out.2.1).far (X + 1) 0 (.int .i64 (r13 : Int)) (by have := HF.out.2.1; omega)).far (X + 2) 0 (.int .i64 0) (by have := HF.out.2.1; omega)
    have HEND := Lib.hid (And.intro hm3 (And.intro hs3 (And.intro h3 (And.intro h4 h5))))
    clear hm3 hs3 h3 h4 h5 bx bj be qm hsw hfar
    go_region
    all_goals
      go_wp2_with fail
      refine leaves_cons (f := 18) (args := #[.pointer (some ⟨X, 0, none⟩), .pointer (some ⟨X + 1, 0, none⟩), .pointer (some ⟨X + 2, 0, none⟩)]) (by simp) (by simp [go_sem]) ?_
      refine (catch_idle _ _ _ _).mono ?_
      rintro e u' w'' ⟨rfl, rfl, rfl⟩
      refine ⟨.tuple #[.int .i64 (r7 : Int), .int .i64 (r13 : Int), .int .i64 0], by simp [results, Try.results9, go_sem, HEND.out.2.2.1, HEND.out.2.2.2.1, HEND.out.2.2.2.2], ?_⟩
      refine .inl ⟨rs, L1, F1, HR1.out, by dsimp only; rw [HR.out.1, HR.out.2], ?_, ?_⟩
      · exact HEND.out.1.same (Nat.le_refl _) (fun _ _ => rfl)
      · exact ⟨HEND.out.2.1.os, HEND.out.2.1.tape, HEND.out.2.1.output, HEND.out.2.1.size, HEND.out.2.1.block, HEND.out.2.1.foot⟩
  · have HE := Lib.hid (show RunP wl M F B pars L (fsBoth u lower upper) (fun _ => .tuple #[]) (.panicked boom) V1 from .inr ⟨q1, rfl, F1, L1, q3, q4⟩)
    clear q1 q3 q4
    go_wp2_with fail
    rcases HE.out with ⟨_, _, _, _, q, _, _⟩ | ⟨qr, -, Fx, Lx, qm, qs⟩
    · cases q
    have bx := qs.blk KB.out.1 (fun hF => absurd (HF.out.1 X hF) (by have := HF.out.2.1; omega))
    have bj := qs.blk KB.out.2.1 (fun hF => absurd (HF.out.1 (X + 1) hF) (by have := HF.out.2.1; omega))
    have be := qs.blk KB.out.2.2.1 (fun hF => absurd (HF.out.1 (X + 2) hF) (by have := HF.out.2.1; omega))
    have hfin := fin3 X (.int .i64 0) (.int .i64 0) (.int .i64 171) qm qs KB.out.2.2.2 HF.out.1 HF.out.2.1 HF.out.2.2
    have h3 := (((bx.set_ 0 (.int .i64 0)).far (p := ⟨X + 1, 0, none⟩) (by show X ≠ X + 1; omega) (.int .i64 0)).far (p := ⟨X + 2, 0, none⟩) (by show X ≠ X + 2; omega) (.int .i64 171)).cell 0
    have h4 := (((bj.far (p := ⟨X, 0, none⟩) (by show X + 1 ≠ X; omega) (.int .i64 0)).set_ 0 (.int .i64 0)).far (p := ⟨X + 2, 0, none⟩) (by show X + 1 ≠ X + 2; omega) (.int .i64 171)).cell 0
    have h5 := (((be.far (p := ⟨X, 0, none⟩) (by show X + 2 ≠ X; omega) (.int .i64 0)).far (p := ⟨X + 1, 0, none⟩) (by show X + 2 ≠ X + 1; omega) (.int .i64 0)).set_ 0 (.int .i64 171)).cell 0
    simp only [List.set_cons_zero, List.getElem?_cons_zero] at h3 h4 h5
    refine leaves_cons (f := 18) (args := #[.pointer (some ⟨X, 0, none⟩), .pointer (some ⟨X + 1, 0, none⟩), .pointer (some ⟨X + 2, 0, none⟩)]) (by simp [boom]) (by simp [go_sem]) ?_
    refine (catch_boom X (X + 1) (X + 2) _ _ _ _ bx bj be (by omega) (by omega) (by omega)).mono ?_
    rintro e u' w'' ⟨rfl, rfl, rfl⟩
    refine ⟨.tuple #[.int .i64 0, .int .i64 0, .int .i64 171], by simp [results, Try.results9, go_sem, h3, h4, h5], ?_⟩
    exact .inr ⟨qr, rfl, Fx, Lx, hfin⟩
/-- What is known behind a region of Put: its normal end, or a panic with the three boxes' places. -/
def QM (Qn : Act → World → Prop) (D : List Deferred) (x y z : Value) (Pn : List PanicEntry → World → Prop) : Exit → Act → World → Prop
  | .normal, a, w => Qn a w
  | .panic c, a, w => (a.defers = D ∧ a.tmps[8]? = some x ∧ a.tmps[9]? = some y ∧ a.tmps[10]? = some z) ∧ Pn c w
  | _, _, _ => False
theorem QM.norm {Qn : Act → World → Prop} {D : List Deferred} {x y z : Value} {Pn : List PanicEntry → World → Prop} {a : Act} {w : World} (h : Qn a w) : QM Qn D x y z Pn .normal a w := h
theorem QM.imp {Q : Exit → Act → World → Prop} {D : List Deferred} {x y z : Value} {Pn : List PanicEntry → World → Prop} (hp : ∀ c a w, a.defers = D → a.tmps[8]? = some x → a.tmps[9]? = some y → a.tmps[10]? = some z → Pn c w → Q (.panic c) a w) :
    ∀ e a w, QM (Q .normal) D x y z Pn e a w → Q e a w := fun e a w h => by
  cases e with
  | normal => exact h
  | panic c => exact hp c a w h.1.1 h.1.2.1 h.1.2.2.1 h.1.2.2.2 h.2
  | _ => exact (h : False).elim
set_option maxRecDepth 100000 in
set_option maxHeartbeats 4000000 in
theorem put_lower (M : Nat) (F : Nat → Prop) (B pars : Nat) (L : List Key) (u lower : Nat) (w : World) (h : Mkr w M F B pars L) (hu : u < L.length) (hbn : lower < L.length) :
    Calls Try.prog 9 #[.pointer (some ⟨M, 0, none⟩), .int .i64 (u : Int), .int .i64 (lower : Int), .int .i64 (-1)] w (RunR w M F B pars L ([fun _ => ⟨8, u, 0, []⟩, fun r => ⟨3, lower, r.getD 0 0, []⟩]) (fun r => .tuple #[.int .i64 ((r.getD 1 0 : Nat) : Int), .int .i64 (u : Int), .int .i64 0])) := by
  have hmf : ∀ (fn : Fn) (first cap : Array Value) (w : World), (Instr.makeFunc fn first cap).run Try.prog w = .ok (.func fn first cap) w := fun _ _ _ _ => rfl
  obtain ⟨W, hW⟩ : ∃ W, (((w.alloc (.cells #[.int .i64 0] 3)).alloc (.cells #[.int .i64 0] 3)).alloc (.cells #[.int .i64 0] 24)).alloc (.cells #[.pointer (some ⟨M, 0, none⟩)] 56) = W := ⟨_, rfl⟩
  obtain ⟨X, hX⟩ : ∃ X, w.heap.size = X := ⟨_, rfl⟩
  have hbw : Below w.heap.size w W := by rw [← hW]; exact ((((Below.refl w.heap.size w).alloc (Nat.le_refl _) _).alloc (by simp) _).alloc (by simp; omega) _).alloc (by simp; omega) _
  have kx : Blk W X 3 [.int .i64 0] := by rw [← hW]; exact (((blk_new _ _ [_] _ hX).alloc _).alloc _).alloc _
  have kj : Blk W (X + 1) 3 [.int .i64 0] := by rw [← hW]; exact ((blk_new _ _ [_] _ (by simp [hX])).alloc _).alloc _
  have ke : Blk W (X + 2) 24 [.int .i64 0] := by rw [← hW]; exact (blk_new _ _ [_] _ (by simp [hX])).alloc _
  have kp : Blk W (X + 3) 56 [.pointer (some ⟨M, 0, none⟩)] := by rw [← hW]; exact blk_new _ _ [_] _ (by simp [hX])
  have C1 := Lib.hid (one_bad M F B pars L W (h.below hbw))
  have HW := Lib.hid (And.intro hW hbw)
  have HK := Lib.hid (And.intro kx (And.intro kj (And.intro ke kp)))
  have HM := Lib.hid (And.intro h (And.intro hX hu))
  have hun : ¬ (L.length ≤ u) := by omega
  have hl1 : ¬ ((lower : Int) < -1) := by omega
  have hl3 : ¬ ((lower : Int) < 0) := by omega
  have HBN := Lib.hid hbn
  clear hbn
  clear hW hbw kx kj ke kp h
  go_enter_defers Try.func9, Try.ntmps9
  go_wp2_with fail
  rw [HW.out.1]
  refine C1.out.mono ?_
  rintro e W1 ⟨rfl, hb1⟩
  have hB1 := HW.out.2.trans (hb1.mono HW.out.2.size)
  have hm1 := HM.out.1.below hB1
  have k1x := HK.out.1.below hb1 HK.out.1.lt
  have k1j := HK.out.2.1.below hb1 HK.out.2.1.lt
  have k1e := HK.out.2.2.1.below hb1 HK.out.2.2.1.lt
  have k1p := HK.out.2.2.2.below hb1 HK.out.2.2.2.lt
  have H0 := Lib.hid (St.mk (w := W1) (F := F) (L := L) (fs := [fun _ => ⟨8, u, 0, []⟩, fun r => ⟨3, lower, r.getD 0 0, []⟩]) (rs := []) (rest := [fun _ => ⟨8, u, 0, []⟩, fun r => ⟨3, lower, r.getD 0 0, []⟩]) rfl hm1 (Sp.refl F W1) k1p (show ¬ F (X + 3) from fun hF => absurd (HM.out.1.has.2 (X + 3) hF) (by have := HM.out.2.1; omega)) (by simp) (Nat.le_refl _))
  have KB := Lib.hid (And.intro k1x (And.intro k1j (And.intro k1e hB1)))
  have HF := Lib.hid (And.intro HM.out.1.has.2 (And.intro (show w.heap.size ≤ X by have := HM.out.2.1; omega) (show X + 2 < W1.heap.size from k1e.lt)))
  have CL := Lib.hid (len_ok M F B pars L W1 hm1)
  have p0 := k1p.cell 0
  simp only [List.getElem?_cons_zero] at p0
  clear hb1 hB1 hm1 k1x k1j k1e k1p C1 HW HK
  go_wp2_with (go_at_call 10; refine CL.out.mono ?_; rintro e wl ⟨rfl, rfl⟩)
  have HR0 := Lib.hid H0.out
  refine Code.wp_mono (QM.imp (D := [⟨.fn (.func 18) #[.pointer (some ⟨X, 0, none⟩), .pointer (some ⟨X + 1, 0, none⟩), .pointer (some ⟨X + 1 + 1, 0, none⟩)], #[]⟩]) (x := .pointer (some ⟨X, 0, none⟩)) (y := .pointer (some ⟨X + 1, 0, none⟩)) (z := .pointer (some ⟨X + 1 + 1, 0, none⟩))
    (Pn := fun c V => c = boom ∧ RunP wl M F B pars L ([fun _ => ⟨8, u, 0, []⟩, fun r => ⟨3, lower, r.getD 0 0, []⟩]) (fun _ => .tuple #[]) (.panicked boom) V) ?hp) ?hreg
  case hp =>
    rintro c a V hd h8 h9 h10 ⟨rfl, hE⟩
    have HE := Lib.hid hE
    clear hE p0
    show Leaves _ _ a.tmps _ a.defers _ _
    rw [hd]
    rcases HE.out with ⟨_, _, _, _, q, _, _⟩ | ⟨qr, -, Fx, Lx, qm, qs⟩
    · cases q
    have bx := qs.blk KB.out.1 (fun hF => absurd (HF.out.1 X hF) (by have := HF.out.2.1; omega))
    have bj := qs.blk KB.out.2.1 (fun hF => absurd (HF.out.1 (X + 1) hF) (by have := HF.out.2.1; omega))
    have be := qs.blk KB.out.2.2.1 (fun hF => absurd (HF.out.1 (X + 2) hF) (by have := HF.out.2.1; omega))
    have hfin := fin3 X (.int .i64 0) (.int .i64 0) (.int .i64 171) qm qs KB.out.2.2.2 HF.out.1 HF.out.2.1 HF.out.2.2
    have h3 := (((bx.set_ 0 (.int .i64 0)).far (p := ⟨X + 1, 0, none⟩) (by show X ≠ X + 1; omega) (.int .i64 0)).far (p := ⟨X + 2, 0, none⟩) (by show X ≠ X + 2; omega) (.int .i64 171)).cell 0
    have h4 := (((bj.far (p := ⟨X, 0, none⟩) (by show X + 1 ≠ X; omega) (.int .i64 0)).set_ 0 (.int .i64 0)).far (p := ⟨X + 2, 0, none⟩) (by show X + 1 ≠ X + 2; omega) (.int .i64 171)).cell 0
    have h5 := (((be.far (p := ⟨X, 0, none⟩) (by show X + 2 ≠ X; omega) (.int .i64 0)).far (p := ⟨X + 1, 0, none⟩) (by show X + 2 ≠ X + 1; omega) (.int .i64 0)).set_ 0 (.int .i64 171)).cell 0
    simp only [List.set_cons_zero, List.getElem?_cons_zero] at h3 h4 h5
    refine leaves_cons (f := 18) (args := #[.pointer (some ⟨X, 0, none⟩), .pointer (some ⟨X + 1, 0, none⟩), .pointer (some ⟨X + 2, 0, none⟩)]) (by simp [boom]) (by simp [go_sem]) ?_
    refine (catch_boom X (X + 1) (X + 2) _ _ _ _ bx bj be (by omega) (by omega) (by omega)).mono ?_
    rintro e u' w'' ⟨rfl, rfl, rfl⟩
    refine ⟨.tuple #[.int .i64 0, .int .i64 0, .int .i64 171], by simp [results, Try.results9, go_sem, h3, h4, h5, h8, h9, h10], ?_⟩
    exact .inr ⟨qr, rfl, Fx, Lx, hfin⟩
  refine wp_region_held_drew (S := fun V => V.cell? ⟨X + 3, 0, none⟩ = some (.pointer (some ⟨M, 0, none⟩))) (by kernel_rfl) H0.out.cell (fun hHeld => ?_)
  have H0d := Lib.hid (H0.out.below (Below.refl _ _).drew)
  refine wpAnyH_take (i := 0) (v := ?vk1) (getOp rfl) (by kernel_rfl) (by kernel_rfl) (by kernel_rfl) (fun c a w hq => ⟨⟨hq.1.1, by simpa [Act.put] using hq.1.2.1, by simpa [Act.put] using hq.1.2.2.1, by simpa [Act.put] using hq.1.2.2.2⟩, hq.2⟩) (Or.inl ⟨?hwk1, ?hyk1⟩) hHeld ?restk1
  case hwk1 => rfl
  case hyk1 =>
    intro V hSV
    go_simp
    with_reducible rfl
  try simp only [Act.put, List.setIfInBounds_toArray, List.set_cons_zero, List.set_cons_succ]
  refine wpAnyH_take (i := 1) (v := ?vk2) (getOp rfl) (by kernel_rfl) (by kernel_rfl) (by kernel_rfl) (fun c a w hq => ⟨⟨hq.1.1, by simpa [Act.put] using hq.1.2.1, by simpa [Act.put] using hq.1.2.2.1, by simpa [Act.put] using hq.1.2.2.2⟩, hq.2⟩) (Or.inl ⟨?hwk2, ?hyk2⟩) hHeld ?restk2
  case hwk2 => rfl
  case hyk2 =>
    intro V hSV
    go_simp
    with_reducible rfl
  try simp only [Act.put, List.setIfInBounds_toArray, List.set_cons_zero, List.set_cons_succ]
  refine wpAnyH_take (i := 2) (v := ?vk3) (getOp rfl) (by kernel_rfl) (by kernel_rfl) (by kernel_rfl) (fun c a w hq => ⟨⟨hq.1.1, by simpa [Act.put] using hq.1.2.1, by simpa [Act.put] using hq.1.2.2.1, by simpa [Act.put] using hq.1.2.2.2⟩, hq.2⟩) (Or.inl ⟨?hwk3, ?hyk3⟩) hHeld ?restk3
  case hwk3 => rfl
  case hyk3 =>
    intro V hSV
    go_simp
    with_reducible rfl
  try simp only [Act.put, List.setIfInBounds_toArray, List.set_cons_zero, List.set_cons_succ]
  refine wpAnyH_take (i := 3) (v := ?vk4) (getOp rfl) (by kernel_rfl) (by kernel_rfl) (by kernel_rfl) (fun c a w hq => ⟨⟨hq.1.1, by simpa [Act.put] using hq.1.2.1, by simpa [Act.put] using hq.1.2.2.1, by simpa [Act.put] using hq.1.2.2.2⟩, hq.2⟩) (Or.inl ⟨?hwk4, ?hyk4⟩) hHeld ?restk4
  case hwk4 => rfl
  case hyk4 =>
    intro V hSV
    go_simp
    with_reducible rfl
  try simp only [Act.put, List.setIfInBounds_toArray, List.set_cons_zero, List.set_cons_succ]
  refine wpAnyH_take (i := 7) (v := ?vk5) (getOp rfl) (by kernel_rfl) (by kernel_rfl) (by kernel_rfl) (fun c a w hq => ⟨⟨hq.1.1, by simpa [Act.put] using hq.1.2.1, by simpa [Act.put] using hq.1.2.2.1, by simpa [Act.put] using hq.1.2.2.2⟩, hq.2⟩) (Or.inl ⟨?hwk5, ?hyk5⟩) hHeld ?restk5
  case hwk5 => rfl
  case hyk5 =>
    intro V hSV
    go_simp
    with_reducible rfl
  try simp only [Act.put, List.setIfInBounds_toArray, List.set_cons_zero, List.set_cons_succ]
  refine wpAnyH_ready (rs := [4]) (by kernel_rfl) (by simp) ?_
  refine AllReadyH.cons (getOp rfl) (fun K hK => ?_) AllReadyH.nil
  go_simp
  have ha := (Below.refl wl.heap.size wl).alloc (Nat.le_refl _) (.cells #[.int .u8 8] 5)
  have Ha := Lib.hid (H0d.out.below (V' := (wl.alloc (.cells #[.int .u8 8] 5)).drew) ⟨ha.os, ha.tape, ha.output, ha.size, ha.block⟩)
  have KS := Lib.hid (show Blk (wl.alloc (.cells #[.int .u8 8] 5)).drew wl.heap.size 5 [.int .u8 8] from Blk.new wl _ [.int .u8 8])
  clear ha
  refine hK.out _ _ (Ha.out.cell) (fun hHeld => ?_)
  clear hK K
  try simp only [Act.put, List.setIfInBounds_toArray, List.set_cons_zero, List.set_cons_succ]
  refine wpAnyH_ready (rs := [5]) (by kernel_rfl) (by simp) ?_
  refine AllReadyH.cons (getOp rfl) (fun K hK => ?_) AllReadyH.nil
  go_simp
  go_at_call 21
  refine (fold_one M _ B pars _ 8 u _ _ Ha.out.mkr (by decide) (Ha.out.fits1 (by decide) HM.out.2.2) fields_8 HM.out.2.2 KS.out).mono ?_
  rintro e V1 (⟨r0, L1, F1, q1, rfl, q3, q4⟩ | ⟨q1, rfl, q3, q4⟩)
  rotate_left
  · have HE := Lib.hid (Ha.out.fail (tell := fun _ => .tuple #[]) rfl q1 q3 q4)
    clear q1 q3 q4
    go_wp2_with fail
    exact ⟨⟨rfl, rfl, rfl, rfl⟩, rfl, HE.out⟩
  have H1 := Lib.hid (Ha.out.next rfl q1 q3 q4)
  clear q1 q3 q4
  go_wp2_with fail
  refine hK.out _ _ (H1.out.cell) (fun hHeld => ?_)
  clear hK K
  try simp only [Act.put, List.setIfInBounds_toArray, List.set_cons_zero, List.set_cons_succ]
  refine wpAnyH_ready (rs := [6]) (by kernel_rfl) (by simp) ?_
  refine AllReadyH.cons (getOp rfl) (fun K hK => ?_) AllReadyH.nil
  go_simp
  go_at_call 20
  refine (two_pen M _ B pars _ 3 lower r0 _ H1.out.mkr (by decide) (H1.out.fits (by decide) (Nat.lt_of_lt_of_le HBN.out H1.out.pre) (H1.out.lt r0 (by simp))) fields_3 (Nat.lt_of_lt_of_le HBN.out H1.out.pre) (H1.out.lt r0 (by simp))).mono ?_
  rintro e V2 (⟨r1, L2, F2, q1, rfl, q3, q4⟩ | ⟨q1, rfl, q3, q4⟩)
  rotate_left
  · have HE := Lib.hid (H1.out.fail (tell := fun _ => .tuple #[]) rfl q1 q3 q4)
    clear q1 q3 q4
    go_wp2_with fail
    exact ⟨⟨rfl, rfl, rfl, rfl⟩, rfl, HE.out⟩
  have H2 := Lib.hid (H1.out.next rfl q1 q3 q4)
  clear q1 q3 q4
  obtain ⟨qr, qm, qs, qp, -, -, -⟩ := H2.out
  have bx := qs.blk KB.out.1 (fun hF => absurd (HF.out.1 X hF) (by have := HF.out.2.1; omega))
  have bj := qs.blk KB.out.2.1 (fun hF => absurd (HF.out.1 (X + 1) hF) (by have := HF.out.2.1; omega))
  have be := qs.blk KB.out.2.2.1 (fun hF => absurd (HF.out.1 (X + 2) hF) (by have := HF.out.2.1; omega))
  have hfin := fin3 X (.int .i64 (r1 : Int)) (.int .i64 (u : Int)) (.int .i64 0) qm qs KB.out.2.2.2 HF.out.1 HF.out.2.1 HF.out.2.2
  have x0 := bx.cell 0
  have j0 := (bj.far (p := ⟨X, 0, none⟩) (by show X + 1 ≠ X; omega) (.int .i64 (r1 : Int))).cell 0
  have e0 := ((be.far (p := ⟨X, 0, none⟩) (by show X + 2 ≠ X; omega) (.int .i64 (r1 : Int))).far (p := ⟨X + 1, 0, none⟩) (by show X + 2 ≠ X + 1; omega) (.int .i64 (u : Int))).cell 0
  have fx := bx.frozen 0 (by simp)
  have fj := (bj.far (p := ⟨X, 0, none⟩) (by show X + 1 ≠ X; omega) (.int .i64 (r1 : Int))).frozen 0 (by simp)
  have fe := ((be.far (p := ⟨X, 0, none⟩) (by show X + 2 ≠ X; omega) (.int .i64 (r1 : Int))).far (p := ⟨X + 1, 0, none⟩) (by show X + 2 ≠ X + 1; omega) (.int .i64 (u : Int))).frozen 0 (by simp)
  have h3 := (((bx.set_ 0 (.int .i64 (r1 : Int))).far (p := ⟨X + 1, 0, none⟩) (by show X ≠ X + 1; omega) (.int .i64 (u : Int))).far (p := ⟨X + 2, 0, none⟩) (by show X ≠ X + 2; omega) (.int .i64 0)).cell 0
  have h4 := (((bj.far (p := ⟨X, 0, none⟩) (by show X + 1 ≠ X; omega) (.int .i64 (r1 : Int))).set_ 0 (.int .i64 (u : Int))).far (p := ⟨X + 2, 0, none⟩) (by show X + 1 ≠ X + 2; omega) (.int .i64 0)).cell 0
  have h5 := (((be.far (p := ⟨X, 0, none⟩) (by show X + 2 ≠ X; omega) (.int .i64 (r1 : Int))).far (p := ⟨X + 1, 0, none⟩) (by show X + 2 ≠ X + 1; omega) (.int .i64 (u : Int))).set_ 0 (.int .i64 0)).cell 0
  simp only [List.set_cons_zero, List.getElem?_cons_zero] at x0 j0 e0 h3 h4 h5
  have HEND := Lib.hid (And.intro hfin (And.intro h3 (And.intro h4 h5)))
  have HRUN := Lib.hid (qr)
  have SP1 := Lib.hid ((qp.far (p := ⟨X, 0, none⟩) (by show X + 3 ≠ X; omega) (.int .i64 (r1 : Int))).cell 0)
  have SP2 := Lib.hid (((qp.far (p := ⟨X, 0, none⟩) (by show X + 3 ≠ X; omega) (.int .i64 (r1 : Int))).far (p := ⟨X + 1, 0, none⟩) (by show X + 3 ≠ X + 1; omega) (.int .i64 (u : Int))).cell 0)
  have SP3 := Lib.hid ((((qp.far (p := ⟨X, 0, none⟩) (by show X + 3 ≠ X; omega) (.int .i64 (r1 : Int))).far (p := ⟨X + 1, 0, none⟩) (by show X + 3 ≠ X + 1; omega) (.int .i64 (u : Int))).far (p := ⟨X + 2, 0, none⟩) (by show X + 3 ≠ X + 2; omega) (.int .i64 0)).cell 0)
  clear hfin h3 h4 h5 bx bj be qm qs qr qp p0
  go_wp2_with fail
  refine hK.out _ _ (H2.out.cell) (fun hHeld => ?_)
  clear hK K
  try simp only [Act.put, List.setIfInBounds_toArray, List.set_cons_zero, List.set_cons_succ]
  refine wpAnyH_ready (rs := [8]) (by kernel_rfl) (by simp) ?_
  refine AllReadyH.cons (getOp rfl) (fun K hK => ?_) AllReadyH.nil
  go_simp
  refine hK.out _ _ (SP1.out) (fun hHeld => ?_)
  clear hK K
  try simp only [Act.put, List.setIfInBounds_toArray, List.set_cons_zero, List.set_cons_succ]
  refine wpAnyH_ready (rs := [9]) (by kernel_rfl) (by simp) ?_
  refine AllReadyH.cons (getOp rfl) (fun K hK => ?_) AllReadyH.nil
  go_simp
  refine hK.out _ _ (SP2.out) (fun hHeld => ?_)
  clear hK K
  try simp only [Act.put, List.setIfInBounds_toArray, List.set_cons_zero, List.set_cons_succ]
  refine wpAnyH_ready (rs := [10]) (by kernel_rfl) (by simp) ?_
  refine AllReadyH.cons (getOp rfl) (fun K hK => ?_) AllReadyH.nil
  go_simp
  refine hK.out _ _ (SP3.out) (fun hHeld => ?_)
  clear hK K
  try simp only [Act.put, List.setIfInBounds_toArray, List.set_cons_zero, List.set_cons_succ]
  refine wpAnyH_done (by kernel_rfl) ?_ _
  refine QM.norm ?_
  go_wp2_with fail
  refine leaves_cons (f := 18) (args := #[.pointer (some ⟨X, 0, none⟩), .pointer (some ⟨X + 1, 0, none⟩), .pointer (some ⟨X + 2, 0, none⟩)]) (by simp) (by simp [go_sem]) ?_
  refine (catch_idle _ _ _ _).mono ?_
  rintro e u' w'' ⟨rfl, rfl, rfl⟩
  refine ⟨.tuple #[.int .i64 (r1 : Int), .int .i64 (u : Int), .int .i64 0], by simp [results, Try.results9, go_sem, HEND.out.2.1, HEND.out.2.2.1, HEND.out.2.2.2], ?_⟩
  exact .inl ⟨[r0, r1], L2, F2, HRUN.out, rfl, HEND.out.1⟩
set_option maxRecDepth 100000 in
set_option maxHeartbeats 4000000 in
theorem put_upper (M : Nat) (F : Nat → Prop) (B pars : Nat) (L : List Key) (u upper : Nat) (w : World) (h : Mkr w M F B pars L) (hu : u < L.length) (hbn : upper < L.length) :
    Calls Try.prog 9 #[.pointer (some ⟨M, 0, none⟩), .int .i64 (u : Int), .int .i64 (-1), .int .i64 (upper : Int)] w (RunR w M F B pars L ([fun _ => ⟨8, u, 0, []⟩, fun r => ⟨4, upper, r.getD 0 0, []⟩]) (fun r => .tuple #[.int .i64 ((r.getD 1 0 : Nat) : Int), .int .i64 (u : Int), .int .i64 0])) := by
  have hmf : ∀ (fn : Fn) (first cap : Array Value) (w : World), (Instr.makeFunc fn first cap).run Try.prog w = .ok (.func fn first cap) w := fun _ _ _ _ => rfl
  obtain ⟨W, hW⟩ : ∃ W, (((w.alloc (.cells #[.int .i64 0] 3)).alloc (.cells #[.int .i64 0] 3)).alloc (.cells #[.int .i64 0] 24)).alloc (.cells #[.pointer (some ⟨M, 0, none⟩)] 56) = W := ⟨_, rfl⟩
  obtain ⟨X, hX⟩ : ∃ X, w.heap.size = X := ⟨_, rfl⟩
  have hbw : Below w.heap.size w W := by rw [← hW]; exact ((((Below.refl w.heap.size w).alloc (Nat.le_refl _) _).alloc (by simp) _).alloc (by simp; omega) _).alloc (by simp; omega) _
  have kx : Blk W X 3 [.int .i64 0] := by rw [← hW]; exact (((blk_new _ _ [_] _ hX).alloc _).alloc _).alloc _
  have kj : Blk W (X + 1) 3 [.int .i64 0] := by rw [← hW]; exact ((blk_new _ _ [_] _ (by simp [hX])).alloc _).alloc _
  have ke : Blk W (X + 2) 24 [.int .i64 0] := by rw [← hW]; exact (blk_new _ _ [_] _ (by simp [hX])).alloc _
  have kp : Blk W (X + 3) 56 [.pointer (some ⟨M, 0, none⟩)] := by rw [← hW]; exact blk_new _ _ [_] _ (by simp [hX])
  have C1 := Lib.hid (one_bad M F B pars L W (h.below hbw))
  have HW := Lib.hid (And.intro hW hbw)
  have HK := Lib.hid (And.intro kx (And.intro kj (And.intro ke kp)))
  have HM := Lib.hid (And.intro h (And.intro hX hu))
  have hun : ¬ (L.length ≤ u) := by omega
  have hl1 : ¬ ((upper : Int) < -1) := by omega
  have hl3 : ¬ ((upper : Int) < 0) := by omega
  have HBN := Lib.hid hbn
  clear hbn
  clear hW hbw kx kj ke kp h
  go_enter_defers Try.func9, Try.ntmps9
  go_wp2_with fail
  rw [HW.out.1]
  refine C1.out.mono ?_
  rintro e W1 ⟨rfl, hb1⟩
  have hB1 := HW.out.2.trans (hb1.mono HW.out.2.size)
  have hm1 := HM.out.1.below hB1
  have k1x := HK.out.1.below hb1 HK.out.1.lt
  have k1j := HK.out.2.1.below hb1 HK.out.2.1.lt
  have k1e := HK.out.2.2.1.below hb1 HK.out.2.2.1.lt
  have k1p := HK.out.2.2.2.below hb1 HK.out.2.2.2.lt
  have H0 := Lib.hid (St.mk (w := W1) (F := F) (L := L) (fs := [fun _ => ⟨8, u, 0, []⟩, fun r => ⟨4, upper, r.getD 0 0, []⟩]) (rs := []) (rest := [fun _ => ⟨8, u, 0, []⟩, fun r => ⟨4, upper, r.getD 0 0, []⟩]) rfl hm1 (Sp.refl F W1) k1p (show ¬ F (X + 3) from fun hF => absurd (HM.out.1.has.2 (X + 3) hF) (by have := HM.out.2.1; omega)) (by simp) (Nat.le_refl _))
  have KB := Lib.hid (And.intro k1x (And.intro k1j (And.intro k1e hB1)))
  have HF := Lib.hid (And.intro HM.out.1.has.2 (And.intro (show w.heap.size ≤ X by have := HM.out.2.1; omega) (show X + 2 < W1.heap.size from k1e.lt)))
  have CL := Lib.hid (len_ok M F B pars L W1 hm1)
  have p0 := k1p.cell 0
  simp only [List.getElem?_cons_zero] at p0
  clear hb1 hB1 hm1 k1x k1j k1e k1p C1 HW HK
  go_wp2_with (go_at_call 10; refine CL.out.mono ?_; rintro e wl ⟨rfl, rfl⟩)
  have HR0 := Lib.hid H0.out
  refine Code.wp_mono (QM.imp (D := [⟨.fn (.func 18) #[.pointer (some ⟨X, 0, none⟩), .pointer (some ⟨X + 1, 0, none⟩), .pointer (some ⟨X + 1 + 1, 0, none⟩)], #[]⟩]) (x := .pointer (some ⟨X, 0, none⟩)) (y := .pointer (some ⟨X + 1, 0, none⟩)) (z := .pointer (some ⟨X + 1 + 1, 0, none⟩))
    (Pn := fun c V => c = boom ∧ RunP wl M F B pars L ([fun _ => ⟨8, u, 0, []⟩, fun r => ⟨4, upper, r.getD 0 0, []⟩]) (fun _ => .tuple #[]) (.panicked boom) V) ?hp) ?hreg
  case hp =>
    rintro c a V hd h8 h9 h10 ⟨rfl, hE⟩
    have HE := Lib.hid hE
    clear hE p0
    show Leaves _ _ a.tmps _ a.defers _ _
    rw [hd]
    rcases HE.out with ⟨_, _, _, _, q, _, _⟩ | ⟨qr, -, Fx, Lx, qm, qs⟩
    · cases q
    have bx := qs.blk KB.out.1 (fun hF => absurd (HF.out.1 X hF) (by have := HF.out.2.1; omega))
    have bj := qs.blk KB.out.2.1 (fun hF => absurd (HF.out.1 (X + 1) hF) (by have := HF.out.2.1; omega))
    have be := qs.blk KB.out.2.2.1 (fun hF => absurd (HF.out.1 (X + 2) hF) (by have := HF.out.2.1; omega))
    have hfin := fin3 X (.int .i64 0) (.int .i64 0) (.int .i64 171) qm qs KB.out.2.2.2 HF.out.1 HF.out.2.1 HF.out.2.2
    have h3 := (((bx.set_ 0 (.int .i64 0)).far (p := ⟨X + 1, 0, none⟩) (by show X ≠ X + 1; omega) (.int .i64 0)).far (p := ⟨X + 2, 0, none⟩) (by show X ≠ X + 2; omega) (.int .i64 171)).cell 0
    have h4 := (((bj.far (p := ⟨X, 0, none⟩) (by show X + 1 ≠ X; omega) (.int .i64 0)).set_ 0 (.int .i64 0)).far (p := ⟨X + 2, 0, none⟩) (by show X + 1 ≠ X + 2; omega) (.int .i64 171)).cell 0
    have h5 := (((be.far (p := ⟨X, 0, none⟩) (by show X + 2 ≠ X; omega) (.int .i64 0)).far (p := ⟨X + 1, 0, none⟩) (by show X + 2 ≠ X + 1; omega) (.int .i64 0)).set_ 0 (.int .i64 171)).cell 0
    simp only [List.set_cons_zero, List.getElem?_cons_zero] at h3 h4 h5
    refine leaves_cons (f := 18) (args := #[.pointer (some ⟨X, 0, none⟩), .pointer (some ⟨X + 1, 0, none⟩), .pointer (some ⟨X + 2, 0, none⟩)]) (by simp [boom]) (by simp [go_sem]) ?_
    refine (catch_boom X (X + 1) (X + 2) _ _ _ _ bx bj be (by omega) (by omega) (by omega)).mono ?_
    rintro e u' w'' ⟨rfl, rfl, rfl⟩
    refine ⟨.tuple #[.int .i64 0, .int .i64 0, .int .i64 171], by simp [results, Try.results9, go_sem, h3, h4, h5, h8, h9, h10], ?_⟩
    exact .inr ⟨qr, rfl, Fx, Lx, hfin⟩
  refine wp_region_held_drew (S := fun V => V.cell? ⟨X + 3, 0, none⟩ = some (.pointer (some ⟨M, 0, none⟩))) (by kernel_rfl) H0.out.cell (fun hHeld => ?_)
  have H0d := Lib.hid (H0.out.below (Below.refl _ _).drew)
  refine wpAnyH_take (i := 0) (v := ?vk6) (getOp rfl) (by kernel_rfl) (by kernel_rfl) (by kernel_rfl) (fun c a w hq => ⟨⟨hq.1.1, by simpa [Act.put] using hq.1.2.1, by simpa [Act.put] using hq.1.2.2.1, by simpa [Act.put] using hq.1.2.2.2⟩, hq.2⟩) (Or.inl ⟨?hwk6, ?hyk6⟩) hHeld ?restk6
  case hwk6 => rfl
  case hyk6 =>
    intro V hSV
    go_simp
    with_reducible rfl
  try simp only [Act.put, List.setIfInBounds_toArray, List.set_cons_zero, List.set_cons_succ]
  refine wpAnyH_take (i := 1) (v := ?vk7) (getOp rfl) (by kernel_rfl) (by kernel_rfl) (by kernel_rfl) (fun c a w hq => ⟨⟨hq.1.1, by simpa [Act.put] using hq.1.2.1, by simpa [Act.put] using hq.1.2.2.1, by simpa [Act.put] using hq.1.2.2.2⟩, hq.2⟩) (Or.inl ⟨?hwk7, ?hyk7⟩) hHeld ?restk7
  case hwk7 => rfl
  case hyk7 =>
    intro V hSV
    go_simp
    with_reducible rfl
  try simp only [Act.put, List.setIfInBounds_toArray, List.set_cons_zero, List.set_cons_succ]
  refine wpAnyH_take (i := 2) (v := ?vk8) (getOp rfl) (by kernel_rfl) (by kernel_rfl) (by kernel_rfl) (fun c a w hq => ⟨⟨hq.1.1, by simpa [Act.put] using hq.1.2.1, by simpa [Act.put] using hq.1.2.2.1, by simpa [Act.put] using hq.1.2.2.2⟩, hq.2⟩) (Or.inl ⟨?hwk8, ?hyk8⟩) hHeld ?restk8
  case hwk8 => rfl
  case hyk8 =>
    intro V hSV
    go_simp
    with_reducible rfl
  try simp only [Act.put, List.setIfInBounds_toArray, List.set_cons_zero, List.set_cons_succ]
  refine wpAnyH_take (i := 3) (v := ?vk9) (getOp rfl) (by kernel_rfl) (by kernel_rfl) (by kernel_rfl) (fun c a w hq => ⟨⟨hq.1.1, by simpa [Act.put] using hq.1.2.1, by simpa [Act.put] using hq.1.2.2.1, by simpa [Act.put] using hq.1.2.2.2⟩, hq.2⟩) (Or.inl ⟨?hwk9, ?hyk9⟩) hHeld ?restk9
  case hwk9 => rfl
  case hyk9 =>
    intro V hSV
    go_simp
    with_reducible rfl
  try simp only [Act.put, List.setIfInBounds_toArray, List.set_cons_zero, List.set_cons_succ]
  refine wpAnyH_take (i := 7) (v := ?vk10) (getOp rfl) (by kernel_rfl) (by kernel_rfl) (by kernel_rfl) (fun c a w hq => ⟨⟨hq.1.1, by simpa [Act.put] using hq.1.2.1, by simpa [Act.put] using hq.1.2.2.1, by simpa [Act.put] using hq.1.2.2.2⟩, hq.2⟩) (Or.inl ⟨?hwk10, ?hyk10⟩) hHeld ?restk10
  case hwk10 => rfl
  case hyk10 =>
    intro V hSV
    go_simp
    with_reducible rfl
  try simp only [Act.put, List.setIfInBounds_toArray, List.set_cons_zero, List.set_cons_succ]
  refine wpAnyH_ready (rs := [4]) (by kernel_rfl) (by simp) ?_
  refine AllReadyH.cons (getOp rfl) (fun K hK => ?_) AllReadyH.nil
  go_simp
  have ha := (Below.refl wl.heap.size wl).alloc (Nat.le_refl _) (.cells #[.int .u8 8] 5)
  have Ha := Lib.hid (H0d.out.below (V' := (wl.alloc (.cells #[.int .u8 8] 5)).drew) ⟨ha.os, ha.tape, ha.output, ha.size, ha.block⟩)
  have KS := Lib.hid (show Blk (wl.alloc (.cells #[.int .u8 8] 5)).drew wl.heap.size 5 [.int .u8 8] from Blk.new wl _ [.int .u8 8])
  clear ha
  refine hK.out _ _ (Ha.out.cell) (fun hHeld => ?_)
  clear hK K
  try simp only [Act.put, List.setIfInBounds_toArray, List.set_cons_zero, List.set_cons_succ]
  refine wpAnyH_ready (rs := [5]) (by kernel_rfl) (by simp) ?_
  refine AllReadyH.cons (getOp rfl) (fun K hK => ?_) AllReadyH.nil
  go_simp
  go_at_call 21
  refine (fold_one M _ B pars _ 8 u _ _ Ha.out.mkr (by decide) (Ha.out.fits1 (by decide) HM.out.2.2) fields_8 HM.out.2.2 KS.out).mono ?_
  rintro e V1 (⟨r0, L1, F1, q1, rfl, q3, q4⟩ | ⟨q1, rfl, q3, q4⟩)
  rotate_left
  · have HE := Lib.hid (Ha.out.fail (tell := fun _ => .tuple #[]) rfl q1 q3 q4)
    clear q1 q3 q4
    go_wp2_with fail
    exact ⟨⟨rfl, rfl, rfl, rfl⟩, rfl, HE.out⟩
  have H1 := Lib.hid (Ha.out.next rfl q1 q3 q4)
  clear q1 q3 q4
  go_wp2_with fail
  refine hK.out _ _ (H1.out.cell) (fun hHeld => ?_)
  clear hK K
  try simp only [Act.put, List.setIfInBounds_toArray, List.set_cons_zero, List.set_cons_succ]
  refine wpAnyH_ready (rs := [6]) (by kernel_rfl) (by simp) ?_
  refine AllReadyH.cons (getOp rfl) (fun K hK => ?_) AllReadyH.nil
  go_simp
  go_at_call 20
  refine (two_pen M _ B pars _ 4 upper r0 _ H1.out.mkr (by decide) (H1.out.fits (by decide) (Nat.lt_of_lt_of_le HBN.out H1.out.pre) (H1.out.lt r0 (by simp))) fields_4 (Nat.lt_of_lt_of_le HBN.out H1.out.pre) (H1.out.lt r0 (by simp))).mono ?_
  rintro e V2 (⟨r1, L2, F2, q1, rfl, q3, q4⟩ | ⟨q1, rfl, q3, q4⟩)
  rotate_left
  · have HE := Lib.hid (H1.out.fail (tell := fun _ => .tuple #[]) rfl q1 q3 q4)
    clear q1 q3 q4
    go_wp2_with fail
    exact ⟨⟨rfl, rfl, rfl, rfl⟩, rfl, HE.out⟩
  have H2 := Lib.hid (H1.out.next rfl q1 q3 q4)
  clear q1 q3 q4
  obtain ⟨qr, qm, qs, qp, -, -, -⟩ := H2.out
  have bx := qs.blk KB.out.1 (fun hF => absurd (HF.out.1 X hF) (by have := HF.out.2.1; omega))
  have bj := qs.blk KB.out.2.1 (fun hF => absurd (HF.out.1 (X + 1) hF) (by have := HF.out.2.1; omega))
  have be := qs.blk KB.out.2.2.1 (fun hF => absurd (HF.out.1 (X + 2) hF) (by have := HF.out.2.1; omega))
  have hfin := fin3 X (.int .i64 (r1 : Int)) (.int .i64 (u : Int)) (.int .i64 0) qm qs KB.out.2.2.2 HF.out.1 HF.out.2.1 HF.out.2.2
  have x0 := bx.cell 0
  have j0 := (bj.far (p := ⟨X, 0, none⟩) (by show X + 1 ≠ X; omega) (.int .i64 (r1 : Int))).cell 0
  have e0 := ((be.far (p := ⟨X, 0, none⟩) (by show X + 2 ≠ X; omega) (.int .i64 (r1 : Int))).far (p := ⟨X + 1, 0, none⟩) (by show X + 2 ≠ X + 1; omega) (.int .i64 (u : Int))).cell 0
  have fx := bx.frozen 0 (by simp)
  have fj := (bj.far (p := ⟨X, 0, none⟩) (by show X + 1 ≠ X; omega) (.int .i64 (r1 : Int))).frozen 0 (by simp)
  have fe := ((be.far (p := ⟨X, 0, none⟩) (by show X + 2 ≠ X; omega) (.int .i64 (r1 : Int))).far (p := ⟨X + 1, 0, none⟩) (by show X + 2 ≠ X + 1; omega) (.int .i64 (u : Int))).frozen 0 (by simp)
  have h3 := (((bx.set_ 0 (.int .i64 (r1 : Int))).far (p := ⟨X + 1, 0, none⟩) (by show X ≠ X + 1; omega) (.int .i64 (u : Int))).far (p := ⟨X + 2, 0, none⟩) (by show X ≠ X + 2; omega) (.int .i64 0)).cell 0
  have h4 := (((bj.far (p := ⟨X, 0, none⟩) (by show X + 1 ≠ X; omega) (.int .i64 (r1 : Int))).set_ 0 (.int .i64 (u : Int))).far (p := ⟨X + 2, 0, none⟩) (by show X + 1 ≠ X + 2; omega) (.int .i64 0)).cell 0
  have h5 := (((be.far (p := ⟨X, 0, none⟩) (by show X + 2 ≠ X; omega) (.int .i64 (r1 : Int))).far (p := ⟨X + 1, 0, none⟩) (by show X + 2 ≠ X + 1; omega) (.int .i64 (u : Int))).set_ 0 (.int .i64 0)).cell 0
  simp only [List.set_cons_zero, List.getElem?_cons_zero] at x0 j0 e0 h3 h4 h5
  have HEND := Lib.hid (And.intro hfin (And.intro h3 (And.intro h4 h5)))
  have HRUN := Lib.hid (qr)
  have SP1 := Lib.hid ((qp.far (p := ⟨X, 0, none⟩) (by show X + 3 ≠ X; omega) (.int .i64 (r1 : Int))).cell 0)
  have SP2 := Lib.hid (((qp.far (p := ⟨X, 0, none⟩) (by show X + 3 ≠ X; omega) (.int .i64 (r1 : Int))).far (p := ⟨X + 1, 0, none⟩) (by show X + 3 ≠ X + 1; omega) (.int .i64 (u : Int))).cell 0)
  have SP3 := Lib.hid ((((qp.far (p := ⟨X, 0, none⟩) (by show X + 3 ≠ X; omega) (.int .i64 (r1 : Int))).far (p := ⟨X + 1, 0, none⟩) (by show X + 3 ≠ X + 1; omega) (.int .i64 (u : Int))).far (p := ⟨X + 2, 0, none⟩) (by show X + 3 ≠ X + 2; omega) (.int .i64 0)).cell 0)
  clear hfin h3 h4 h5 bx bj be qm qs qr qp p0
  go_wp2_with fail
  refine hK.out _ _ (H2.out.cell) (fun hHeld => ?_)
  clear hK K
  try simp only [Act.put, List.setIfInBounds_toArray, List.set_cons_zero, List.set_cons_succ]
  refine wpAnyH_ready (rs := [8]) (by kernel_rfl) (by simp) ?_
  refine AllReadyH.cons (getOp rfl) (fun K hK => ?_) AllReadyH.nil
  go_simp
  refine hK.out _ _ (SP1.out) (fun hHeld => ?_)
  clear hK K
  try simp only [Act.put, List.setIfInBounds_toArray, List.set_cons_zero, List.set_cons_succ]
  refine wpAnyH_ready (rs := [9]) (by kernel_rfl) (by simp) ?_
  refine AllReadyH.cons (getOp rfl) (fun K hK => ?_) AllReadyH.nil
  go_simp
  refine hK.out _ _ (SP2.out) (fun hHeld => ?_)
  clear hK K
  try simp only [Act.put, List.setIfInBounds_toArray, List.set_cons_zero, List.set_cons_succ]
  refine wpAnyH_ready (rs := [10]) (by kernel_rfl) (by simp) ?_
  refine AllReadyH.cons (getOp rfl) (fun K hK => ?_) AllReadyH.nil
  go_simp
  refine hK.out _ _ (SP3.out) (fun hHeld => ?_)
  clear hK K
  try simp only [Act.put, List.setIfInBounds_toArray, List.set_cons_zero, List.set_cons_succ]
  refine wpAnyH_done (by kernel_rfl) ?_ _
  refine QM.norm ?_
  go_wp2_with fail
  refine leaves_cons (f := 18) (args := #[.pointer (some ⟨X, 0, none⟩), .pointer (some ⟨X + 1, 0, none⟩), .pointer (some ⟨X + 2, 0, none⟩)]) (by simp) (by simp [go_sem]) ?_
  refine (catch_idle _ _ _ _).mono ?_
  rintro e u' w'' ⟨rfl, rfl, rfl⟩
  refine ⟨.tuple #[.int .i64 (r1 : Int), .int .i64 (u : Int), .int .i64 0], by simp [results, Try.results9, go_sem, HEND.out.2.1, HEND.out.2.2.1, HEND.out.2.2.2], ?_⟩
  exact .inl ⟨[r0, r1], L2, F2, HRUN.out, rfl, HEND.out.1⟩
end Go.Proofs.Ytljgiagdmnedpaa.Tape_
