/-
chart: fold, of one step and of two.
-/
import Derived.Test.YtljgiagdmnedpaaChart
namespace Go.Proofs.Ytljgiagdmnedpaa.Tape_
open Go.RowKit Nat_ Frac_

theorem put_lt_B {B : Nat} {L L' : List Key} {k : Key} {i : Nat} {w : World} {M : Nat} {F : Nat → Prop} {pars : Nat} (h : put B L k = some (i, L')) (hm : Mkr w M F B pars L') : i < L'.length ∧ i < 20000 := by
  have h1 := put_lt h
  have h2 := hm.bounds
  omega
set_option maxRecDepth 100000 in
set_option maxHeartbeats 2000000 in
theorem fold_one (M : Nat) (F : Nat → Prop) (B pars : Nat) (L : List Key) (op x g : Nat) (w : World) (h : Mkr w M F B pars L) (hop : op ≠ 1) (hfit : Fits ⟨op, x, 0, []⟩) (hf : FieldsOf op 4) (hx : x < L.length) (hg : Blk w g 5 [.int .u8 (op : Int)]) :
    Calls Try.prog 21 #[.agg #[.pointer (some ⟨M, 0, none⟩)], .int .i64 (x : Int), .slice (some ⟨g, 0, none⟩) 1 1] w (PutP w M F B pars L ⟨op, x, 0, []⟩) := by
  obtain ⟨W, hW⟩ : ∃ W, w.alloc (.cells #[.pointer (some ⟨M, 0, none⟩)] 56) = W := ⟨_, rfl⟩
  obtain ⟨G, hG⟩ : ∃ G, w.heap.size = G := ⟨_, rfl⟩
  have hbw : Below w.heap.size w W := by rw [← hW]; exact (Below.refl w.heap.size w).alloc (Nat.le_refl _) _
  have k1 : Blk W G 56 [.pointer (some ⟨M, 0, none⟩)] := by rw [← hW]; exact blk_new _ _ [_] _ hG
  have C := Lib.hid (one_ok M F B pars L op x W (h.below hbw) hop hfit hf hx)
  have c0 := k1.cell 0
  have g0 := (hg.below hbw hg.lt).cell 0
  have HW := Lib.hid (And.intro hW hbw)
  simp only [List.getElem?_cons_zero] at c0 g0
  clear hW hbw k1 h hop hfit hf hx hg
  go_enter Try.func21, Try.ntmps21
  go_wp2_with fail
  rw [HW.out.1]
  refine wp_loop_rounds 2 ?_
  rw [rounds_succ]
  go_wp2_with fail
  refine C.out.mono ?_
  rintro e w' (⟨i, L', F', h1, rfl, h3, h4⟩ | ⟨h1, rfl, h3, h4⟩)
  · have HE := Lib.hid (PutP.below (L := L) (k := ⟨op, x, 0, []⟩) HW.out.2 (.inl ⟨i, L', F', h1, rfl, h3, h4⟩))
    clear h1 h3 h4 c0 g0
    go_wp2_with (go_at_call 29; refine (must_ok _ _).mono ?_; rintro e wm ⟨rfl, rfl⟩)
    rw [rounds_succ]
    go_wp2_with fail
    go_ret
    exact HE.out
  · have HE := Lib.hid (PutP.below (L := L) (k := ⟨op, x, 0, []⟩) HW.out.2 (.inr ⟨h1, rfl, h3, h4⟩))
    clear h1 h3 h4 c0 g0
    go_wp2_with (go_at_call 29; refine (must_bad _ _).mono ?_; rintro e wm ⟨rfl, rfl⟩)
    exact ⟨rfl, HE.out⟩
/-- Two puts, the second one of what the first one tells; or a panic. -/
def PutP2 (w : World) (M : Nat) (F : Nat → Prop) (B pars : Nat) (L : List Key) (k : Key) (k2 : Nat → Key) (e : Ending) (w' : World) : Prop :=
  (∃ i L1 j L2 F2, put B L k = some (i, L1) ∧ put B L1 (k2 i) = some (j, L2) ∧ e = .returned (.int .i64 (j : Int)) ∧ Mkr w' M F2 B pars L2 ∧ Sp F w F2 w') ∨
  ((put B L k = none ∨ ∃ i L1, put B L k = some (i, L1) ∧ put B L1 (k2 i) = none) ∧ e = .panicked boom ∧ ∃ F' L', Mkr w' M F' B pars L' ∧ Sp F w F' w')
set_option maxRecDepth 100000 in
set_option maxHeartbeats 2000000 in
theorem fold_two (M : Nat) (F : Nat → Prop) (B pars : Nat) (L : List Key) (x g : Nat) (w : World) (h : Mkr w M F B pars L) (hx : x < L.length) (hg : Blk w g 5 [.int .u8 7, .int .u8 8]) (hgF : ¬ F g) :
    Calls Try.prog 21 #[.agg #[.pointer (some ⟨M, 0, none⟩)], .int .i64 (x : Int), .slice (some ⟨g, 0, none⟩) 2 2] w (PutP2 w M F B pars L ⟨7, x, 0, []⟩ (fun i => ⟨8, i, 0, []⟩)) := by
  obtain ⟨W, hW⟩ : ∃ W, w.alloc (.cells #[.pointer (some ⟨M, 0, none⟩)] 56) = W := ⟨_, rfl⟩
  obtain ⟨G, hG⟩ : ∃ G, w.heap.size = G := ⟨_, rfl⟩
  have hbw : Below w.heap.size w W := by rw [← hW]; exact (Below.refl w.heap.size w).alloc (Nat.le_refl _) _
  have k1 : Blk W G 56 [.pointer (some ⟨M, 0, none⟩)] := by rw [← hW]; exact blk_new _ _ [_] _ hG
  have hgW := hg.below hbw hg.lt
  have hbd := h.bounds
  have C := Lib.hid (one_ok M F B pars L 7 x W (h.below hbw) (by decide) ⟨show 7 < 256 by decide, show x < _ by omega, show 0 < 9223372036854775808 by decide, show 0 ≤ _ from Nat.zero_le _⟩ fields_7 hx)
  have c0 := k1.cell 0
  have g0 := hgW.cell 0
  have HW := Lib.hid (And.intro hW hbw)
  have HG := Lib.hid (And.intro k1 (And.intro hgW (And.intro hgF (show ¬ F G from fun hF => absurd (h.has.2 G hF) (by omega)))))
  simp only [List.getElem?_cons_zero] at c0 g0
  clear hW hbw k1 h hx hg hgW hgF hbd
  go_enter Try.func21, Try.ntmps21
  go_wp2_with fail
  rw [HW.out.1]
  refine wp_loop_rounds 3 ?_
  rw [rounds_succ]
  go_wp2_with fail
  refine C.out.mono ?_
  rintro e w1 (⟨i, L', F', h1, rfl, h3, h4⟩ | ⟨h1, rfl, h3, h4⟩)
  · have hi := put_lt_B h1 h3
    have k1 := h4.blk HG.out.1 HG.out.2.2.2
    have k2 := h4.blk HG.out.2.1 HG.out.2.2.1
    have d0 := k1.cell 0
    have d1 := k2.cell 1
    simp only [List.getElem?_cons_zero, List.getElem?_cons_succ] at d0 d1
    have C2 := Lib.hid (one_ok M F' B pars L' 8 i w1 h3 (by decide) ⟨show 8 < 256 by decide, show i < _ by omega, show 0 < 9223372036854775808 by decide, show 0 ≤ _ from Nat.zero_le _⟩ fields_8 hi.1)
    have HE := Lib.hid (And.intro h1 h4)
    clear h1 h3 h4 c0 g0 hi k1 k2
    go_wp2_with (go_at_call 29; refine (must_ok _ _).mono ?_; rintro e wm ⟨rfl, rfl⟩)
    rw [rounds_succ]
    go_wp2_with fail
    refine C2.out.mono ?_
    rintro e w2 (⟨j, L2, F2, q1, rfl, q3, q4⟩ | ⟨q1, rfl, q3, q4⟩)
    · have HE2 := Lib.hid (And.intro q1 (And.intro q3 ((Sp.of_below HW.out.2).trans (HE.out.2.trans q4))))
      clear q1 q3 q4 d0 d1
      go_wp2_with (go_at_call 29; refine (must_ok _ _).mono ?_; rintro e wm ⟨rfl, rfl⟩)
      rw [rounds_succ]
      go_wp2_with fail
      go_ret
      exact .inl ⟨i, L', j, L2, F2, HE.out.1, HE2.out.1, rfl, HE2.out.2.1, HE2.out.2.2⟩
    · have HE2 := Lib.hid (And.intro q1 (And.intro q3 ((Sp.of_below HW.out.2).trans (HE.out.2.trans q4))))
      clear q1 q3 q4 d0 d1
      go_wp2_with (go_at_call 29; refine (must_bad _ _).mono ?_; rintro e wm ⟨rfl, rfl⟩)
      exact ⟨rfl, .inr ⟨.inr ⟨i, L', HE.out.1, HE2.out.1⟩, rfl, _, _, HE2.out.2.1, HE2.out.2.2⟩⟩
  · have HE := Lib.hid (And.intro h1 (And.intro h3 ((Sp.of_below HW.out.2).trans h4)))
    clear h1 h3 h4 c0 g0
    go_wp2_with (go_at_call 29; refine (must_bad _ _).mono ?_; rintro e wm ⟨rfl, rfl⟩)
    exact ⟨rfl, .inr ⟨.inl HE.out.1, rfl, _, _, HE.out.2.1, HE.out.2.2⟩⟩
end Go.Proofs.Ytljgiagdmnedpaa.Tape_
