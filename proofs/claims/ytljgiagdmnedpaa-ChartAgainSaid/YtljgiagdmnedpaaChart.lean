/-
chart: must, two, num, fold. (Printed by gen_chart.py.)
-/
import Derived.Test.YtljgiagdmnedpaaTapeNum
import Derived.LoopN
namespace Go.Proofs.Ytljgiagdmnedpaa.Tape_
open Go.RowKit Nat_ Frac_

/-- What must panics with, where there is no room. -/
def boom : List PanicEntry := [{ v := .iface 24 (.int .i64 171), recovered := false }]
theorem must_ok (i : Int) (w : World) :
    Calls Try.prog 29 #[.int .i64 i, .int .i64 0] w fun e w' => e = .returned (.int .i64 i) ∧ w' = w := by
  go_enter Try.func29, Try.ntmps29
  go_wp2
  go_ret
  exact ⟨rfl, rfl⟩
theorem must_bad (i : Int) (w : World) :
    Calls Try.prog 29 #[.int .i64 i, .int .i64 171] w fun e w' => e = .panicked boom ∧ w' = w := by
  go_enter Try.func29, Try.ntmps29
  go_wp2
  exact ⟨rfl, rfl, rfl⟩
/-- A put, or a panic. -/
def PutP (w : World) (M : Nat) (F : Nat → Prop) (B pars : Nat) (L : List Key) (k : Key) (e : Ending) (w' : World) : Prop :=
  (∃ i L' F', put B L k = some (i, L') ∧ e = .returned (.int .i64 (i : Int)) ∧ Mkr w' M F' B pars L' ∧ Sp F w F' w') ∨
  (put B L k = none ∧ e = .panicked boom ∧ Mkr w' M F B pars L ∧ Sp F w F w')
theorem PutP.below {w V w' : World} {M : Nat} {F : Nat → Prop} {B pars : Nat} {L : List Key} {k : Key} {e : Ending} (hb : Below w.heap.size w V) (h : PutP V M F B pars L k e w') : PutP w M F B pars L k e w' := by
  rcases h with ⟨i, L', F', h1, h2, h3, h4⟩ | ⟨h1, h2, h3, h4⟩
  · exact .inl ⟨i, L', F', h1, h2, h3, (Sp.of_below hb).trans h4⟩
  · exact .inr ⟨h1, h2, h3, (Sp.of_below hb).trans h4⟩
set_option maxRecDepth 100000 in
set_option maxHeartbeats 1000000 in
theorem two_pen (M : Nat) (F : Nat → Prop) (B pars : Nat) (L : List Key) (op x y : Nat) (w : World) (h : Mkr w M F B pars L) (hop : op ≠ 1) (hfit : Fits ⟨op, x, y, []⟩) (hf : FieldsOf op 3) (hx : x < L.length) (hy : y < L.length) :
    Calls Try.prog 20 #[.agg #[.pointer (some ⟨M, 0, none⟩)], .int .u8 (op : Int), .int .i64 (x : Int), .int .i64 (y : Int)] w (PutP w M F B pars L ⟨op, x, y, []⟩) := by
  have hb := (Below.refl w.heap.size w).alloc (Nat.le_refl _) (.cells #[.pointer (some ⟨M, 0, none⟩)] 56)
  have C := Lib.hid (two_ok M F B pars L op x y _ (h.below hb) hop hfit hf hx hy)
  have HB := Lib.hid hb
  clear h hop hfit hf hx hy hb
  go_enter Try.func20, Try.ntmps20
  go_wp2_with fail
  refine C.out.mono ?_
  rintro e w' (⟨i, L', F', h1, rfl, h3, h4⟩ | ⟨h1, rfl, h3, h4⟩)
  · have HE := Lib.hid (PutP.below (L := L) (k := ⟨op, x, y, []⟩) HB.out (.inl ⟨i, L', F', h1, rfl, h3, h4⟩))
    clear h1 h3 h4
    go_wp2_with (go_at_call 29; refine (must_ok _ _).mono ?_; rintro e wm ⟨rfl, rfl⟩)
    go_ret
    exact HE.out
  · have HE := Lib.hid (PutP.below (L := L) (k := ⟨op, x, y, []⟩) HB.out (.inr ⟨h1, rfl, h3, h4⟩))
    clear h1 h3 h4
    go_wp2_with (go_at_call 29; refine (must_bad _ _).mono ?_; rintro e wm ⟨rfl, rfl⟩)
    exact ⟨rfl, HE.out⟩
set_option maxRecDepth 100000 in
set_option maxHeartbeats 2000000 in
theorem num_pen (M : Nat) (F : Nat → Prop) (B pars : Nat) (L : List Key) (x : Int) (w : World) (h : Mkr w M F B pars L) (h0 : -9223372036854775808 ≤ x) (h1 : x ≤ 9223372036854775807) :
    Calls Try.prog 19 #[.agg #[.pointer (some ⟨M, 0, none⟩)], .int .i64 x] w (PutP w M F B pars L (numK x)) := by
  obtain ⟨W, hW⟩ : ∃ W, w.alloc (.cells #[.pointer (some ⟨M, 0, none⟩)] 56) = W := ⟨_, rfl⟩
  obtain ⟨G, hG⟩ : ∃ G, w.heap.size = G := ⟨_, rfl⟩
  have hbw : Below w.heap.size w W := by rw [← hW]; exact (Below.refl w.heap.size w).alloc (Nat.le_refl _) _
  have k1 : Blk W G 56 [.pointer (some ⟨M, 0, none⟩)] := by rw [← hW]; exact blk_new _ _ [_] _ hG
  have FS := Lib.hid (fun (V : World) (hV : Below W.heap.size W V) => (show V.cell? ⟨G, 0, none⟩ = some (.pointer (some ⟨M, 0, none⟩)) ∧ Below W.heap.size W V from ⟨(k1.below hV k1.lt).cell 0, hV⟩))
  have HBd := Lib.hid (Below.refl W.heap.size W).drew
  have CO := Lib.hid (of_any x W.drew h0 h1)
  have hn : x.natAbs < Lim := small_lim x h0 h1
  have CN := Lib.hid (fun V (v : Value) (hV : Below W.heap.size W V) (hv : FVal W.drew.heap.size V (decide (x < 0)) x.natAbs 1 v) => num_ok M F B pars L (decide (x < 0)) x.natAbs _ v V ((h.below hbw).below hV) hn (zneg_small x) hv)
  have HW := Lib.hid (And.intro hW hbw)
  have KS := Lib.hid (fun (V : World) (F' : Nat → Prop) (hV : Sp F W F' V) => hV.blk k1 (fun hF => by have := h.has.2 G hF; omega))
  have k1l := k1.lt
  clear hW hbw k1 h0 h1 hn h
  go_enter Try.func19, Try.ntmps19
  go_wp2_with fail
  rw [HW.out.1]
  refine wp_region_held_drew (S := fun V => V.cell? ⟨G, 0, none⟩ = some (.pointer (some ⟨M, 0, none⟩))) (by kernel_rfl) (FS.out _ HBd.out).1 (fun hHeld => ?_)
  refine wpAnyH_take (i := 0) (v := ?vn0) (getOp rfl) (by kernel_rfl) (by kernel_rfl) (by kernel_rfl) (fun _ _ _ h => h) (Or.inl ⟨?hwn0, ?hyn0⟩) hHeld ?restn0
  case hwn0 => rfl
  case hyn0 =>
    intro V hSV
    go_simp
    with_reducible rfl
  try simp only [Act.put, List.setIfInBounds_toArray, List.set_cons_zero, List.set_cons_succ]
  refine wpAnyH_take (i := 1) (v := ?vn1) (getOp rfl) (by kernel_rfl) (by kernel_rfl) (by kernel_rfl) (fun _ _ _ h => h) (Or.inl ⟨?hwn1, ?hyn1⟩) hHeld ?restn1
  case hwn1 => rfl
  case hyn1 =>
    intro V hSV
    go_simp
    with_reducible rfl
  try simp only [Act.put, List.setIfInBounds_toArray, List.set_cons_zero, List.set_cons_succ]
  refine wpAnyH_take (i := 2) (v := ?vn2) (getOp rfl) (by kernel_rfl) (by kernel_rfl) (by kernel_rfl) (fun _ _ _ h => h) (Or.inl ⟨?hwn2, ?hyn2⟩) hHeld ?restn2
  case hwn2 => rfl
  case hyn2 =>
    intro V hSV
    go_simp
    with_reducible rfl
  try simp only [Act.put, List.setIfInBounds_toArray, List.set_cons_zero, List.set_cons_succ]
  refine wpAnyH_ready (rs := [3]) (by kernel_rfl) (by simp) ?_
  refine AllReadyH.cons (getOp rfl) (fun K hK => ?_) AllReadyH.nil
  go_simp
  go_at_call 8
  refine CO.out.mono ?_
  rintro e w1 ⟨⟨v, rfl, hv⟩, hb1⟩
  have hbV : Below W.heap.size W w1 := HBd.out.trans (hb1.mono HBd.out.size)
  have HV := Lib.hid (And.intro hbV hv)
  clear hb1 hbV hv
  go_wp2_with fail
  refine hK.out _ _ ((FS.out _ HV.out.1).1) (fun hHeld => ?_)
  clear hK K
  try simp only [Act.put, List.setIfInBounds_toArray, List.set_cons_zero, List.set_cons_succ]
  refine wpAnyH_ready (rs := [4]) (by kernel_rfl) (by simp) ?_
  refine AllReadyH.cons (getOp rfl) (fun K hK => ?_) AllReadyH.nil
  go_simp
  go_at_call 7
  refine (CN.out _ _ HV.out.1 HV.out.2).mono ?_
  rintro e w2 (⟨i, L', F', q1, rfl, q3, q4⟩ | ⟨q1, rfl, q3, q4⟩)
  · have hsp := (Sp.of_below (F := F) HV.out.1).trans q4
    have hcell := (KS.out _ _ hsp).cell 0
    simp only [List.getElem?_cons_zero] at hcell
    have HE := Lib.hid (PutP.below (w := w) (k := numK x) HW.out.2 (.inl ⟨i, L', F', q1, rfl, q3, hsp⟩))
    have HC := Lib.hid hcell
    clear q1 q3 q4 hsp hcell
    go_wp2_with fail
    refine hK.out _ _ (HC.out) (fun hHeld => ?_)
    clear hK K
    try simp only [Act.put, List.setIfInBounds_toArray, List.set_cons_zero, List.set_cons_succ]
    refine wpAnyH_take (i := 5) (v := ?vnok5) (getOp rfl) (by kernel_rfl) (by kernel_rfl) (by kernel_rfl) (fun _ _ _ h => h) (Or.inl ⟨?hwnok5, ?hynok5⟩) hHeld ?restnok5
    case hwnok5 => rfl
    case hynok5 =>
      intro V hSV
      go_simp
      with_reducible rfl
    try simp only [Act.put, List.setIfInBounds_toArray, List.set_cons_zero, List.set_cons_succ]
    refine wpAnyH_take (i := 6) (v := ?vnok6) (getOp rfl) (by kernel_rfl) (by kernel_rfl) (by kernel_rfl) (fun _ _ _ h => h) (Or.inl ⟨?hwnok6, ?hynok6⟩) hHeld ?restnok6
    case hwnok6 => rfl
    case hynok6 =>
      intro V hSV
      go_simp
      with_reducible rfl
    try simp only [Act.put, List.setIfInBounds_toArray, List.set_cons_zero, List.set_cons_succ]
    refine wpAnyH_ready (rs := [7]) (by kernel_rfl) (by simp) ?_
    refine AllReadyH.cons (getOp rfl) (fun K hK => ?_) AllReadyH.nil
    go_simp
    go_at_call 29
    refine (must_ok _ _).mono ?_
    rintro e wm ⟨rfl, rfl⟩
    go_wp2_with fail
    refine hK.out _ _ (HC.out) (fun hHeld => ?_)
    clear hK K
    try simp only [Act.put, List.setIfInBounds_toArray, List.set_cons_zero, List.set_cons_succ]
    refine wpAnyH_take (i := 8) (v := ?vnz) (getOp rfl) (by kernel_rfl) (by kernel_rfl) (by kernel_rfl) (fun _ _ _ h => h) (Or.inl ⟨?hwnz, ?hynz⟩) hHeld ?restnz
    case hwnz => rfl
    case hynz =>
      intro V hSV
      go_simp
      with_reducible rfl
    try simp only [Act.put, List.setIfInBounds_toArray, List.set_cons_zero, List.set_cons_succ]
    refine wpAnyH_done (by kernel_rfl) ?_ _
    go_wp2_with fail
    go_ret
    exact HE.out
  · have hsp := (Sp.of_below (F := F) HV.out.1).trans q4
    have hcell := (KS.out _ _ hsp).cell 0
    simp only [List.getElem?_cons_zero] at hcell
    have HE := Lib.hid (PutP.below (w := w) (k := numK x) HW.out.2 (.inr ⟨q1, rfl, q3, hsp⟩))
    have HC := Lib.hid hcell
    clear q1 q3 q4 hsp hcell
    go_wp2_with fail
    refine hK.out _ _ (HC.out) (fun hHeld => ?_)
    clear hK K
    try simp only [Act.put, List.setIfInBounds_toArray, List.set_cons_zero, List.set_cons_succ]
    refine wpAnyH_take (i := 5) (v := ?vnbad5) (getOp rfl) (by kernel_rfl) (by kernel_rfl) (by kernel_rfl) (fun _ _ _ h => h) (Or.inl ⟨?hwnbad5, ?hynbad5⟩) hHeld ?restnbad5
    case hwnbad5 => rfl
    case hynbad5 =>
      intro V hSV
      go_simp
      with_reducible rfl
    try simp only [Act.put, List.setIfInBounds_toArray, List.set_cons_zero, List.set_cons_succ]
    refine wpAnyH_take (i := 6) (v := ?vnbad6) (getOp rfl) (by kernel_rfl) (by kernel_rfl) (by kernel_rfl) (fun _ _ _ h => h) (Or.inl ⟨?hwnbad6, ?hynbad6⟩) hHeld ?restnbad6
    case hwnbad6 => rfl
    case hynbad6 =>
      intro V hSV
      go_simp
      with_reducible rfl
    try simp only [Act.put, List.setIfInBounds_toArray, List.set_cons_zero, List.set_cons_succ]
    refine wpAnyH_ready (rs := [7]) (by kernel_rfl) (by simp) ?_
    refine AllReadyH.cons (getOp rfl) (fun K hK => ?_) AllReadyH.nil
    go_simp
    go_at_call 29
    refine (must_bad _ _).mono ?_
    rintro e wm ⟨rfl, rfl⟩
    go_wp2_with fail
    exact ⟨rfl, HE.out⟩
end Go.Proofs.Ytljgiagdmnedpaa.Tape_
