/-
chart: both. (Printed by gen_both.py.)
-/
import Derived.Test.YtljgiagdmnedpaaChartFold
namespace Go.Proofs.Ytljgiagdmnedpaa.Tape_
open Go.RowKit Nat_ Frac_

/-- A row of puts, or a panic. -/
def RunP (w : World) (M : Nat) (F : Nat → Prop) (B pars : Nat) (L : List Key) (fs : List (List Nat → Key)) (tell : List Nat → Value) (e : Ending) (w' : World) : Prop :=
  (∃ rs L' F', runS B L [] fs = some (rs, L') ∧ e = .returned (tell rs) ∧ Mkr w' M F' B pars L' ∧ Sp F w F' w') ∨
  (runS B L [] fs = none ∧ e = .panicked boom ∧ ∃ F' L', Mkr w' M F' B pars L' ∧ Sp F w F' w')
/-- Where a row of puts stands. -/
structure St (w : World) (M : Nat) (F : Nat → Prop) (B pars : Nat) (L : List Key) (fs : List (List Nat → Key)) (G : Nat) (V : World) (F' : Nat → Prop) (L' : List Key) (rs : List Nat) (rest : List (List Nat → Key)) : Prop where
  run : runS B L [] fs = runS B L' rs rest
  mkr : Mkr V M F' B pars L'
  sp : Sp F w F' V
  pen : Blk V G 56 [.pointer (some ⟨M, 0, none⟩)]
  gF : ¬ F' G
  lt : ∀ i ∈ rs, i < L'.length
  pre : L.length ≤ L'.length
section
variable {w : World} {M : Nat} {F : Nat → Prop} {B pars : Nat} {L : List Key} {fs : List (List Nat → Key)} {G : Nat} {V V' : World} {F' F2 : Nat → Prop} {L' L2 : List Key} {rs : List Nat} {f : List Nat → Key} {rest : List (List Nat → Key)} {k : Key} {i : Nat}
theorem St.below (h : St w M F B pars L fs G V F' L' rs rest) (hb : Below V.heap.size V V') : St w M F B pars L fs G V' F' L' rs rest :=
  ⟨h.run, h.mkr.below hb, h.sp.below hb, h.pen.below hb h.pen.lt, h.gF, h.lt, h.pre⟩
theorem St.next (h : St w M F B pars L fs G V F' L' rs (f :: rest)) (hk : f rs = k) (h1 : put B L' k = some (i, L2)) (h2 : Mkr V' M F2 B pars L2) (h3 : Sp F' V F2 V') : St w M F B pars L fs G V' F2 L2 (rs ++ [i]) rest := by
  have hp := (put_pre h1).1.length_le
  refine ⟨?_, h2, h.sp.trans h3, h3.blk h.pen h.gF, fun hF => ?_, fun j hj => ?_, Nat.le_trans h.pre hp⟩
  · rw [h.run]
    simp only [runS]
    rw [hk, h1]
  · rcases h3.foot G hF with h4 | h4
    · exact h.gF h4
    · exact absurd h.pen.lt (by omega)
  · rcases List.mem_append.1 hj with hj | hj
    · exact Nat.lt_of_lt_of_le (h.lt j hj) hp
    · simp at hj
      rw [hj]
      exact put_lt h1
theorem St.fail {tell : List Nat → Value} (h : St w M F B pars L fs G V F' L' rs (f :: rest)) (hk : f rs = k) (h1 : put B L' k = none) (h2 : Mkr V' M F2 B pars L2) (h3 : Sp F' V F2 V') : RunP w M F B pars L fs tell (.panicked boom) V' := by
  refine .inr ⟨?_, rfl, _, _, h2, h.sp.trans h3⟩
  rw [h.run]
  simp only [runS]
  rw [hk, h1]
theorem St.next2 {f2 : List Nat → Key} {k2 : Key} {j : Nat} {La : List Key} (h : St w M F B pars L fs G V F' L' rs (f :: f2 :: rest)) (hk : f rs = k) (hk2 : f2 (rs ++ [i]) = k2) (h1 : put B L' k = some (i, La)) (h2 : put B La k2 = some (j, L2)) (h3 : Mkr V' M F2 B pars L2) (h4 : Sp F' V F2 V') :
    St w M F B pars L fs G V' F2 L2 ((rs ++ [i]) ++ [j]) rest := by
  have hp := (put_pre h1).1.length_le
  have hp2 := (put_pre h2).1.length_le
  refine ⟨?_, h3, h.sp.trans h4, h4.blk h.pen h.gF, fun hF => ?_, fun x hx => ?_, Nat.le_trans h.pre (Nat.le_trans hp hp2)⟩
  · rw [h.run]
    simp only [runS]
    rw [hk, h1]
    simp only []
    rw [hk2, h2]
  · rcases h4.foot G hF with h5 | h5
    · exact h.gF h5
    · exact absurd h.pen.lt (by omega)
  · rcases List.mem_append.1 hx with hx | hx
    · rcases List.mem_append.1 hx with hx | hx
      · exact Nat.lt_of_lt_of_le (h.lt x hx) (Nat.le_trans hp hp2)
      · simp at hx
        rw [hx]
        exact Nat.lt_of_lt_of_le (put_lt h1) hp2
    · simp at hx
      rw [hx]
      exact put_lt h2
theorem St.fail2 {tell : List Nat → Value} {f2 : List Nat → Key} {k2 : Nat → Key} (h : St w M F B pars L fs G V F' L' rs (f :: f2 :: rest)) (hk : f rs = k) (hk2 : ∀ i, f2 (rs ++ [i]) = k2 i) (h1 : put B L' k = none ∨ ∃ i La, put B L' k = some (i, La) ∧ put B La (k2 i) = none) (h2 : Mkr V' M F2 B pars L2) (h3 : Sp F' V F2 V') :
    RunP w M F B pars L fs tell (.panicked boom) V' := by
  refine .inr ⟨?_, rfl, _, _, h2, h.sp.trans h3⟩
  rw [h.run]
  rcases h1 with h1 | ⟨i, La, h1, h4⟩
  · simp only [runS]
    rw [hk, h1]
  · simp only [runS]
    rw [hk, h1]
    simp only []
    rw [hk2 i, h4]
theorem St.done {tell : List Nat → Value} (h : St w M F B pars L fs G V F' L' rs []) (v : Value) (hv : tell rs = v) : RunP w M F B pars L fs tell (.returned v) V :=
  .inl ⟨rs, L', F', h.run, by rw [hv], h.mkr, h.sp⟩
theorem St.cell (h : St w M F B pars L fs G V F' L' rs rest) : V.cell? ⟨G, 0, none⟩ = some (.pointer (some ⟨M, 0, none⟩)) := h.pen.cell 0
theorem St.fits (h : St w M F B pars L fs G V F' L' rs rest) {op x y : Nat} (hop : op < 256) (hx : x < L'.length) (hy : y < L'.length) : Fits ⟨op, x, y, []⟩ := by
  have := h.mkr.bounds
  exact ⟨hop, show x < _ by omega, show y < _ by omega, show 0 ≤ _ from Nat.zero_le _⟩
theorem St.fits1 (h : St w M F B pars L fs G V F' L' rs rest) {op x : Nat} (hop : op < 256) (hx : x < L'.length) : Fits ⟨op, x, 0, []⟩ := by
  have := h.mkr.bounds
  exact ⟨hop, show x < _ by omega, show 0 < 9223372036854775808 by decide, show 0 ≤ _ from Nat.zero_le _⟩
end
/-- The chart of two bounds, as a row of puts. -/
def fsBoth (u lower upper : Nat) : List (List Nat → Key) :=
  [fun _ => ⟨4, upper, lower, []⟩, fun _ => numK 1, fun _ => ⟨7, u, 0, []⟩, fun r => ⟨8, r.getD 2 0, 0, []⟩, fun r => ⟨3, r.getD 1 0, r.getD 3 0, []⟩, fun r => ⟨6, r.getD 1 0, r.getD 4 0, []⟩,
   fun r => ⟨5, r.getD 0 0, r.getD 5 0, []⟩, fun r => ⟨3, lower, r.getD 6 0, []⟩, fun r => ⟨9, r.getD 0 0, 0, []⟩, fun r => ⟨4, r.getD 8 0, u, []⟩, fun r => ⟨9, r.getD 4 0, 0, []⟩, fun _ => numK 2,
   fun r => ⟨5, r.getD 11 0, r.getD 10 0, []⟩, fun r => ⟨4, r.getD 9 0, r.getD 12 0, []⟩]
set_option maxRecDepth 100000 in
set_option maxHeartbeats 8000000 in
theorem both_pen (M : Nat) (F : Nat → Prop) (B pars : Nat) (L : List Key) (u lower upper : Nat) (w : World) (h : Mkr w M F B pars L) (hu : u < L.length) (hlo : lower < L.length) (hup : upper < L.length) :
    Calls Try.prog 22 #[.agg #[.pointer (some ⟨M, 0, none⟩)], .int .i64 (u : Int), .int .i64 (lower : Int), .int .i64 (upper : Int)] w
      (RunP w M F B pars L (fsBoth u lower upper) (fun r => .tuple #[.int .i64 ((r.getD 7 0 : Nat) : Int), .int .i64 ((r.getD 13 0 : Nat) : Int)])) := by
  obtain ⟨W, hW⟩ : ∃ W, w.alloc (.cells #[.pointer (some ⟨M, 0, none⟩)] 56) = W := ⟨_, rfl⟩
  obtain ⟨G, hG⟩ : ∃ G, w.heap.size = G := ⟨_, rfl⟩
  have hbw : Below w.heap.size w W := by rw [← hW]; exact (Below.refl w.heap.size w).alloc (Nat.le_refl _) _
  have k1 : Blk W G 56 [.pointer (some ⟨M, 0, none⟩)] := by rw [← hW]; exact blk_new _ _ [_] _ hG
  have H0 := Lib.hid (St.mk (w := w) (F := F) (L := L) (fs := fsBoth u lower upper) (rs := []) (rest := fsBoth u lower upper) rfl (h.below hbw) (Sp.of_below hbw) k1 (show ¬ F G from fun hF => absurd (h.has.2 G hF) (by omega)) (by simp) (Nat.le_refl _))
  have HW := Lib.hid hW
  have HL := Lib.hid (And.intro hu (And.intro hlo hup))
  have c0 := H0.out.cell
  clear hW hbw k1 h hu hlo hup
  go_enter Try.func22, Try.ntmps22
  go_wp2_with fail
  rw [HW.out]
  refine (two_pen M _ B pars _ 4 upper lower _ H0.out.mkr (by decide) (H0.out.fits (by decide) (Nat.lt_of_lt_of_le HL.out.2.2 H0.out.pre) (Nat.lt_of_lt_of_le HL.out.2.1 H0.out.pre)) fields_4 (Nat.lt_of_lt_of_le HL.out.2.2 H0.out.pre) (Nat.lt_of_lt_of_le HL.out.2.1 H0.out.pre)).mono ?_
  rintro e V1 (⟨r0, L1, F1, q1, rfl, q3, q4⟩ | ⟨q1, rfl, q3, q4⟩)
  rotate_left
  · have HE := Lib.hid (H0.out.fail (tell := fun r => .tuple #[.int .i64 ((r.getD 7 0 : Nat) : Int), .int .i64 ((r.getD 13 0 : Nat) : Int)]) rfl q1 q3 q4)
    clear q1 q3 q4
    go_wp2_with fail
    exact ⟨rfl, HE.out⟩
  have H1 := Lib.hid (H0.out.next rfl q1 q3 q4)
  clear q1 q3 q4
  clear c0
  have c0 := H1.out.cell
  go_wp2_with fail
  refine (num_pen M _ B pars _ 1 _ H1.out.mkr (by decide) (by decide)).mono ?_
  rintro e V2 (⟨r1, L2, F2, q1, rfl, q3, q4⟩ | ⟨q1, rfl, q3, q4⟩)
  rotate_left
  · have HE := Lib.hid (H1.out.fail (tell := fun r => .tuple #[.int .i64 ((r.getD 7 0 : Nat) : Int), .int .i64 ((r.getD 13 0 : Nat) : Int)]) rfl q1 q3 q4)
    clear q1 q3 q4
    go_wp2_with fail
    exact ⟨rfl, HE.out⟩
  have H2 := Lib.hid (H1.out.next rfl q1 q3 q4)
  clear q1 q3 q4
  clear c0
  have c0 := H2.out.cell
  go_wp2_with fail
  refine wp_region_held_drew (S := fun V => V.cell? ⟨G, 0, none⟩ = some (.pointer (some ⟨M, 0, none⟩))) (by kernel_rfl) H2.out.cell (fun hHeld => ?_)
  have H2d := Lib.hid (H2.out.below (Below.refl _ _).drew)
  refine wpAnyH_take (i := 0) (v := ?vk1) (getOp rfl) (by kernel_rfl) (by kernel_rfl) (by kernel_rfl) (fun _ _ _ h => h) (Or.inl ⟨?hwk1, ?hyk1⟩) hHeld ?restk1
  case hwk1 => rfl
  case hyk1 =>
    intro V hSV
    go_simp
    with_reducible rfl
  try simp only [Act.put, List.setIfInBounds_toArray, List.set_cons_zero, List.set_cons_succ]
  refine wpAnyH_take (i := 1) (v := ?vk2) (getOp rfl) (by kernel_rfl) (by kernel_rfl) (by kernel_rfl) (fun _ _ _ h => h) (Or.inl ⟨?hwk2, ?hyk2⟩) hHeld ?restk2
  case hwk2 => rfl
  case hyk2 =>
    intro V hSV
    go_simp
    with_reducible rfl
  try simp only [Act.put, List.setIfInBounds_toArray, List.set_cons_zero, List.set_cons_succ]
  refine wpAnyH_take (i := 2) (v := ?vk3) (getOp rfl) (by kernel_rfl) (by kernel_rfl) (by kernel_rfl) (fun _ _ _ h => h) (Or.inl ⟨?hwk3, ?hyk3⟩) hHeld ?restk3
  case hwk3 => rfl
  case hyk3 =>
    intro V hSV
    go_simp
    with_reducible rfl
  try simp only [Act.put, List.setIfInBounds_toArray, List.set_cons_zero, List.set_cons_succ]
  refine wpAnyH_take (i := 3) (v := ?vk4) (getOp rfl) (by kernel_rfl) (by kernel_rfl) (by kernel_rfl) (fun _ _ _ h => h) (Or.inl ⟨?hwk4, ?hyk4⟩) hHeld ?restk4
  case hwk4 => rfl
  case hyk4 =>
    intro V hSV
    go_simp
    with_reducible rfl
  try simp only [Act.put, List.setIfInBounds_toArray, List.set_cons_zero, List.set_cons_succ]
  refine wpAnyH_ready (rs := [4]) (by kernel_rfl) (by simp) ?_
  refine AllReadyH.cons (getOp rfl) (fun K hK => ?_) AllReadyH.nil
  go_simp
  have ha := (Below.refl V2.heap.size V2).alloc (Nat.le_refl _) (.cells #[.int .u8 7, .int .u8 8] 5)
  have H3 := Lib.hid (H2d.out.below (V' := (V2.alloc (.cells #[.int .u8 7, .int .u8 8] 5)).drew) ⟨ha.os, ha.tape, ha.output, ha.size, ha.block⟩)
  have KB := Lib.hid (show Blk (V2.alloc (.cells #[.int .u8 7, .int .u8 8] 5)).drew V2.heap.size 5 [.int .u8 7, .int .u8 8] from Blk.new V2 _ [.int .u8 7, .int .u8 8])
  have KF := Lib.hid (show ¬ _ from fun hF => absurd (H2d.out.mkr.has.2 V2.heap.size hF) (Nat.lt_irrefl _))
  clear ha
  refine hK.out _ _ (H3.out.cell) (fun hHeld => ?_)
  clear hK K
  try simp only [Act.put, List.setIfInBounds_toArray, List.set_cons_zero, List.set_cons_succ]
  refine wpAnyH_ready (rs := [5]) (by kernel_rfl) (by simp) ?_
  refine AllReadyH.cons (getOp rfl) (fun K hK => ?_) AllReadyH.nil
  go_simp
  go_at_call 21
  refine (fold_two M _ B pars _ u _ _ H3.out.mkr (Nat.lt_of_lt_of_le HL.out.1 H3.out.pre) KB.out KF.out).mono ?_
  rintro e V4 (⟨r2, La, r3, L4, F4, q1, q2, rfl, q3, q4⟩ | ⟨q1, rfl, Fx, Lx, q3, q4⟩)
  rotate_left
  · have HE := Lib.hid (H3.out.fail2 (tell := fun r => .tuple #[.int .i64 ((r.getD 7 0 : Nat) : Int), .int .i64 ((r.getD 13 0 : Nat) : Int)]) rfl (fun _ => rfl) q1 q3 q4)
    clear q1 q3 q4
    go_wp2_with fail
    exact ⟨rfl, HE.out⟩
  have H4 := Lib.hid (H3.out.next2 rfl rfl q1 q2 q3 q4)
  clear q1 q2 q3 q4 KB KF
  go_wp2_with fail
  refine hK.out _ _ (H4.out.cell) (fun hHeld => ?_)
  clear hK K
  try simp only [Act.put, List.setIfInBounds_toArray, List.set_cons_zero, List.set_cons_succ]
  refine wpAnyH_ready (rs := [6]) (by kernel_rfl) (by simp) ?_
  refine AllReadyH.cons (getOp rfl) (fun K hK => ?_) AllReadyH.nil
  go_simp
  go_at_call 20
  refine (two_pen M _ B pars _ 3 r1 r3 _ H4.out.mkr (by decide) (H4.out.fits (by decide) (H4.out.lt r1 (by simp)) (H4.out.lt r3 (by simp))) fields_3 (H4.out.lt r1 (by simp)) (H4.out.lt r3 (by simp))).mono ?_
  rintro e V5 (⟨r4, L5, F5, q1, rfl, q3, q4⟩ | ⟨q1, rfl, q3, q4⟩)
  rotate_left
  · have HE := Lib.hid (H4.out.fail (tell := fun r => .tuple #[.int .i64 ((r.getD 7 0 : Nat) : Int), .int .i64 ((r.getD 13 0 : Nat) : Int)]) rfl q1 q3 q4)
    clear q1 q3 q4
    go_wp2_with fail
    exact ⟨rfl, HE.out⟩
  have H5 := Lib.hid (H4.out.next rfl q1 q3 q4)
  clear q1 q3 q4
  go_wp2_with fail
  refine hK.out _ _ (H5.out.cell) (fun hHeld => ?_)
  clear hK K
  try simp only [Act.put, List.setIfInBounds_toArray, List.set_cons_zero, List.set_cons_succ]
  refine wpAnyH_take (i := 7) (v := ?vk5) (getOp rfl) (by kernel_rfl) (by kernel_rfl) (by kernel_rfl) (fun _ _ _ h => h) (Or.inl ⟨?hwk5, ?hyk5⟩) hHeld ?restk5
  case hwk5 => rfl
  case hyk5 =>
    intro V hSV
    go_simp
    with_reducible rfl
  try simp only [Act.put, List.setIfInBounds_toArray, List.set_cons_zero, List.set_cons_succ]
  refine wpAnyH_done (by kernel_rfl) ?_ _
  clear hHeld
  clear c0
  have c0 := H5.out.cell
  go_wp2_with fail
  refine (two_pen M _ B pars _ 6 r1 r4 _ H5.out.mkr (by decide) (H5.out.fits (by decide) (H5.out.lt r1 (by simp)) (H5.out.lt r4 (by simp))) fields_6 (H5.out.lt r1 (by simp)) (H5.out.lt r4 (by simp))).mono ?_
  rintro e V6 (⟨r5, L6, F6, q1, rfl, q3, q4⟩ | ⟨q1, rfl, q3, q4⟩)
  rotate_left
  · have HE := Lib.hid (H5.out.fail (tell := fun r => .tuple #[.int .i64 ((r.getD 7 0 : Nat) : Int), .int .i64 ((r.getD 13 0 : Nat) : Int)]) rfl q1 q3 q4)
    clear q1 q3 q4
    go_wp2_with fail
    exact ⟨rfl, HE.out⟩
  have H6 := Lib.hid (H5.out.next rfl q1 q3 q4)
  clear q1 q3 q4
  clear c0
  have c0 := H6.out.cell
  go_wp2_with fail
  refine wp_region_held_drew (S := fun V => V.cell? ⟨G, 0, none⟩ = some (.pointer (some ⟨M, 0, none⟩))) (by kernel_rfl) H6.out.cell (fun hHeld => ?_)
  have H6d := Lib.hid (H6.out.below (Below.refl _ _).drew)
  refine wpAnyH_take (i := 0) (v := ?vk6) (getOp rfl) (by kernel_rfl) (by kernel_rfl) (by kernel_rfl) (fun _ _ _ h => h) (Or.inl ⟨?hwk6, ?hyk6⟩) hHeld ?restk6
  case hwk6 => rfl
  case hyk6 =>
    intro V hSV
    go_simp
    with_reducible rfl
  try simp only [Act.put, List.setIfInBounds_toArray, List.set_cons_zero, List.set_cons_succ]
  refine wpAnyH_take (i := 1) (v := ?vk7) (getOp rfl) (by kernel_rfl) (by kernel_rfl) (by kernel_rfl) (fun _ _ _ h => h) (Or.inl ⟨?hwk7, ?hyk7⟩) hHeld ?restk7
  case hwk7 => rfl
  case hyk7 =>
    intro V hSV
    go_simp
    with_reducible rfl
  try simp only [Act.put, List.setIfInBounds_toArray, List.set_cons_zero, List.set_cons_succ]
  refine wpAnyH_take (i := 2) (v := ?vk8) (getOp rfl) (by kernel_rfl) (by kernel_rfl) (by kernel_rfl) (fun _ _ _ h => h) (Or.inl ⟨?hwk8, ?hyk8⟩) hHeld ?restk8
  case hwk8 => rfl
  case hyk8 =>
    intro V hSV
    go_simp
    with_reducible rfl
  try simp only [Act.put, List.setIfInBounds_toArray, List.set_cons_zero, List.set_cons_succ]
  refine wpAnyH_take (i := 3) (v := ?vk9) (getOp rfl) (by kernel_rfl) (by kernel_rfl) (by kernel_rfl) (fun _ _ _ h => h) (Or.inl ⟨?hwk9, ?hyk9⟩) hHeld ?restk9
  case hwk9 => rfl
  case hyk9 =>
    intro V hSV
    go_simp
    with_reducible rfl
  try simp only [Act.put, List.setIfInBounds_toArray, List.set_cons_zero, List.set_cons_succ]
  refine wpAnyH_take (i := 4) (v := ?vk10) (getOp rfl) (by kernel_rfl) (by kernel_rfl) (by kernel_rfl) (fun _ _ _ h => h) (Or.inl ⟨?hwk10, ?hyk10⟩) hHeld ?restk10
  case hwk10 => rfl
  case hyk10 =>
    intro V hSV
    go_simp
    with_reducible rfl
  try simp only [Act.put, List.setIfInBounds_toArray, List.set_cons_zero, List.set_cons_succ]
  refine wpAnyH_ready (rs := [5]) (by kernel_rfl) (by simp) ?_
  refine AllReadyH.cons (getOp rfl) (fun K hK => ?_) AllReadyH.nil
  go_simp
  go_at_call 20
  refine (two_pen M _ B pars _ 5 r0 r5 _ H6d.out.mkr (by decide) (H6d.out.fits (by decide) (H6d.out.lt r0 (by simp)) (H6d.out.lt r5 (by simp))) fields_5 (H6d.out.lt r0 (by simp)) (H6d.out.lt r5 (by simp))).mono ?_
  rintro e V7 (⟨r6, L7, F7, q1, rfl, q3, q4⟩ | ⟨q1, rfl, q3, q4⟩)
  rotate_left
  · have HE := Lib.hid (H6d.out.fail (tell := fun r => .tuple #[.int .i64 ((r.getD 7 0 : Nat) : Int), .int .i64 ((r.getD 13 0 : Nat) : Int)]) rfl q1 q3 q4)
    clear q1 q3 q4
    go_wp2_with fail
    exact ⟨rfl, HE.out⟩
  have H7 := Lib.hid (H6d.out.next rfl q1 q3 q4)
  clear q1 q3 q4
  go_wp2_with fail
  refine hK.out _ _ (H7.out.cell) (fun hHeld => ?_)
  clear hK K
  try simp only [Act.put, List.setIfInBounds_toArray, List.set_cons_zero, List.set_cons_succ]
  refine wpAnyH_ready (rs := [6]) (by kernel_rfl) (by simp) ?_
  refine AllReadyH.cons (getOp rfl) (fun K hK => ?_) AllReadyH.nil
  go_simp
  go_at_call 20
  refine (two_pen M _ B pars _ 3 lower r6 _ H7.out.mkr (by decide) (H7.out.fits (by decide) (Nat.lt_of_lt_of_le HL.out.2.1 H7.out.pre) (H7.out.lt r6 (by simp))) fields_3 (Nat.lt_of_lt_of_le HL.out.2.1 H7.out.pre) (H7.out.lt r6 (by simp))).mono ?_
  rintro e V8 (⟨r7, L8, F8, q1, rfl, q3, q4⟩ | ⟨q1, rfl, q3, q4⟩)
  rotate_left
  · have HE := Lib.hid (H7.out.fail (tell := fun r => .tuple #[.int .i64 ((r.getD 7 0 : Nat) : Int), .int .i64 ((r.getD 13 0 : Nat) : Int)]) rfl q1 q3 q4)
    clear q1 q3 q4
    go_wp2_with fail
    exact ⟨rfl, HE.out⟩
  have H8 := Lib.hid (H7.out.next rfl q1 q3 q4)
  clear q1 q3 q4
  go_wp2_with fail
  refine hK.out _ _ (H8.out.cell) (fun hHeld => ?_)
  clear hK K
  try simp only [Act.put, List.setIfInBounds_toArray, List.set_cons_zero, List.set_cons_succ]
  refine wpAnyH_take (i := 7) (v := ?vk11) (getOp rfl) (by kernel_rfl) (by kernel_rfl) (by kernel_rfl) (fun _ _ _ h => h) (Or.inl ⟨?hwk11, ?hyk11⟩) hHeld ?restk11
  case hwk11 => rfl
  case hyk11 =>
    intro V hSV
    go_simp
    with_reducible rfl
  try simp only [Act.put, List.setIfInBounds_toArray, List.set_cons_zero, List.set_cons_succ]
  refine wpAnyH_done (by kernel_rfl) ?_ _
  clear hHeld
  clear c0
  have c0 := H8.out.cell
  go_wp2_with fail
  refine wp_region_held_drew (S := fun V => V.cell? ⟨G, 0, none⟩ = some (.pointer (some ⟨M, 0, none⟩))) (by kernel_rfl) H8.out.cell (fun hHeld => ?_)
  have H8d := Lib.hid (H8.out.below (Below.refl _ _).drew)
  refine wpAnyH_take (i := 0) (v := ?vk12) (getOp rfl) (by kernel_rfl) (by kernel_rfl) (by kernel_rfl) (fun _ _ _ h => h) (Or.inl ⟨?hwk12, ?hyk12⟩) hHeld ?restk12
  case hwk12 => rfl
  case hyk12 =>
    intro V hSV
    go_simp
    with_reducible rfl
  try simp only [Act.put, List.setIfInBounds_toArray, List.set_cons_zero, List.set_cons_succ]
  refine wpAnyH_take (i := 1) (v := ?vk13) (getOp rfl) (by kernel_rfl) (by kernel_rfl) (by kernel_rfl) (fun _ _ _ h => h) (Or.inl ⟨?hwk13, ?hyk13⟩) hHeld ?restk13
  case hwk13 => rfl
  case hyk13 =>
    intro V hSV
    go_simp
    with_reducible rfl
  try simp only [Act.put, List.setIfInBounds_toArray, List.set_cons_zero, List.set_cons_succ]
  refine wpAnyH_take (i := 2) (v := ?vk14) (getOp rfl) (by kernel_rfl) (by kernel_rfl) (by kernel_rfl) (fun _ _ _ h => h) (Or.inl ⟨?hwk14, ?hyk14⟩) hHeld ?restk14
  case hwk14 => rfl
  case hyk14 =>
    intro V hSV
    go_simp
    with_reducible rfl
  try simp only [Act.put, List.setIfInBounds_toArray, List.set_cons_zero, List.set_cons_succ]
  refine wpAnyH_take (i := 5) (v := ?vk15) (getOp rfl) (by kernel_rfl) (by kernel_rfl) (by kernel_rfl) (fun _ _ _ h => h) (Or.inl ⟨?hwk15, ?hyk15⟩) hHeld ?restk15
  case hwk15 => rfl
  case hyk15 =>
    intro V hSV
    go_simp
    with_reducible rfl
  try simp only [Act.put, List.setIfInBounds_toArray, List.set_cons_zero, List.set_cons_succ]
  refine wpAnyH_ready (rs := [3]) (by kernel_rfl) (by simp) ?_
  refine AllReadyH.cons (getOp rfl) (fun K hK => ?_) AllReadyH.nil
  go_simp
  have ha := (Below.refl V8.heap.size V8).alloc (Nat.le_refl _) (.cells #[.int .u8 9] 5)
  have H9 := Lib.hid (H8d.out.below (V' := (V8.alloc (.cells #[.int .u8 9] 5)).drew) ⟨ha.os, ha.tape, ha.output, ha.size, ha.block⟩)
  have KB := Lib.hid (show Blk (V8.alloc (.cells #[.int .u8 9] 5)).drew V8.heap.size 5 [.int .u8 9] from Blk.new V8 _ [.int .u8 9])
  have KF := Lib.hid (show ¬ _ from fun hF => absurd (H8d.out.mkr.has.2 V8.heap.size hF) (Nat.lt_irrefl _))
  clear ha
  refine hK.out _ _ (H9.out.cell) (fun hHeld => ?_)
  clear hK K
  try simp only [Act.put, List.setIfInBounds_toArray, List.set_cons_zero, List.set_cons_succ]
  refine wpAnyH_ready (rs := [4]) (by kernel_rfl) (by simp) ?_
  refine AllReadyH.cons (getOp rfl) (fun K hK => ?_) AllReadyH.nil
  go_simp
  go_at_call 21
  refine (fold_one M _ B pars _ 9 r0 _ _ H9.out.mkr (by decide) (H9.out.fits1 (by decide) (H9.out.lt r0 (by simp))) fields_9 (H9.out.lt r0 (by simp)) KB.out).mono ?_
  rintro e V10 (⟨r8, L10, F10, q1, rfl, q3, q4⟩ | ⟨q1, rfl, q3, q4⟩)
  rotate_left
  · have HE := Lib.hid (H9.out.fail (tell := fun r => .tuple #[.int .i64 ((r.getD 7 0 : Nat) : Int), .int .i64 ((r.getD 13 0 : Nat) : Int)]) rfl q1 q3 q4)
    clear q1 q3 q4
    go_wp2_with fail
    exact ⟨rfl, HE.out⟩
  have H10 := Lib.hid (H9.out.next rfl q1 q3 q4)
  clear q1 q3 q4
  clear KB KF
  go_wp2_with fail
  refine hK.out _ _ (H10.out.cell) (fun hHeld => ?_)
  clear hK K
  try simp only [Act.put, List.setIfInBounds_toArray, List.set_cons_zero, List.set_cons_succ]
  refine wpAnyH_ready (rs := [6]) (by kernel_rfl) (by simp) ?_
  refine AllReadyH.cons (getOp rfl) (fun K hK => ?_) AllReadyH.nil
  go_simp
  go_at_call 20
  refine (two_pen M _ B pars _ 4 r8 u _ H10.out.mkr (by decide) (H10.out.fits (by decide) (H10.out.lt r8 (by simp)) (Nat.lt_of_lt_of_le HL.out.1 H10.out.pre)) fields_4 (H10.out.lt r8 (by simp)) (Nat.lt_of_lt_of_le HL.out.1 H10.out.pre)).mono ?_
  rintro e V11 (⟨r9, L11, F11, q1, rfl, q3, q4⟩ | ⟨q1, rfl, q3, q4⟩)
  rotate_left
  · have HE := Lib.hid (H10.out.fail (tell := fun r => .tuple #[.int .i64 ((r.getD 7 0 : Nat) : Int), .int .i64 ((r.getD 13 0 : Nat) : Int)]) rfl q1 q3 q4)
    clear q1 q3 q4
    go_wp2_with fail
    exact ⟨rfl, HE.out⟩
  have H11 := Lib.hid (H10.out.next rfl q1 q3 q4)
  clear q1 q3 q4
  go_wp2_with fail
  refine hK.out _ _ (H11.out.cell) (fun hHeld => ?_)
  clear hK K
  try simp only [Act.put, List.setIfInBounds_toArray, List.set_cons_zero, List.set_cons_succ]
  refine wpAnyH_take (i := 7) (v := ?vk16) (getOp rfl) (by kernel_rfl) (by kernel_rfl) (by kernel_rfl) (fun _ _ _ h => h) (Or.inl ⟨?hwk16, ?hyk16⟩) hHeld ?restk16
  case hwk16 => rfl
  case hyk16 =>
    intro V hSV
    go_simp
    with_reducible rfl
  try simp only [Act.put, List.setIfInBounds_toArray, List.set_cons_zero, List.set_cons_succ]
  refine wpAnyH_done (by kernel_rfl) ?_ _
  clear hHeld
  clear c0
  have c0 := H11.out.cell
  go_wp2_with fail
  have ha := (Below.refl V11.heap.size V11).alloc (Nat.le_refl _) (.cells #[.int .u8 9] 5)
  have H12 := Lib.hid (H11.out.below ha)
  have KB := Lib.hid (show Blk (V11.alloc (.cells #[.int .u8 9] 5)) V11.heap.size 5 [.int .u8 9] from Blk.new V11 _ [.int .u8 9])
  clear ha
  refine (fold_one M _ B pars _ 9 r4 _ _ H12.out.mkr (by decide) (H12.out.fits1 (by decide) (H12.out.lt r4 (by simp))) fields_9 (H12.out.lt r4 (by simp)) KB.out).mono ?_
  rintro e V13 (⟨r10, L13, F13, q1, rfl, q3, q4⟩ | ⟨q1, rfl, q3, q4⟩)
  rotate_left
  · have HE := Lib.hid (H12.out.fail (tell := fun r => .tuple #[.int .i64 ((r.getD 7 0 : Nat) : Int), .int .i64 ((r.getD 13 0 : Nat) : Int)]) rfl q1 q3 q4)
    clear q1 q3 q4
    go_wp2_with fail
    exact ⟨rfl, HE.out⟩
  have H13 := Lib.hid (H12.out.next rfl q1 q3 q4)
  clear q1 q3 q4
  clear KB
  clear c0
  have c0 := H13.out.cell
  go_wp2_with fail
  refine wp_region_held_drew (S := fun V => V.cell? ⟨G, 0, none⟩ = some (.pointer (some ⟨M, 0, none⟩))) (by kernel_rfl) H13.out.cell (fun hHeld => ?_)
  have H13d := Lib.hid (H13.out.below (Below.refl _ _).drew)
  refine wpAnyH_take (i := 0) (v := ?vk17) (getOp rfl) (by kernel_rfl) (by kernel_rfl) (by kernel_rfl) (fun _ _ _ h => h) (Or.inl ⟨?hwk17, ?hyk17⟩) hHeld ?restk17
  case hwk17 => rfl
  case hyk17 =>
    intro V hSV
    go_simp
    with_reducible rfl
  try simp only [Act.put, List.setIfInBounds_toArray, List.set_cons_zero, List.set_cons_succ]
  refine wpAnyH_take (i := 1) (v := ?vk18) (getOp rfl) (by kernel_rfl) (by kernel_rfl) (by kernel_rfl) (fun _ _ _ h => h) (Or.inl ⟨?hwk18, ?hyk18⟩) hHeld ?restk18
  case hwk18 => rfl
  case hyk18 =>
    intro V hSV
    go_simp
    with_reducible rfl
  try simp only [Act.put, List.setIfInBounds_toArray, List.set_cons_zero, List.set_cons_succ]
  refine wpAnyH_take (i := 2) (v := ?vk19) (getOp rfl) (by kernel_rfl) (by kernel_rfl) (by kernel_rfl) (fun _ _ _ h => h) (Or.inl ⟨?hwk19, ?hyk19⟩) hHeld ?restk19
  case hwk19 => rfl
  case hyk19 =>
    intro V hSV
    go_simp
    with_reducible rfl
  try simp only [Act.put, List.setIfInBounds_toArray, List.set_cons_zero, List.set_cons_succ]
  refine wpAnyH_take (i := 3) (v := ?vk20) (getOp rfl) (by kernel_rfl) (by kernel_rfl) (by kernel_rfl) (fun _ _ _ h => h) (Or.inl ⟨?hwk20, ?hyk20⟩) hHeld ?restk20
  case hwk20 => rfl
  case hyk20 =>
    intro V hSV
    go_simp
    with_reducible rfl
  try simp only [Act.put, List.setIfInBounds_toArray, List.set_cons_zero, List.set_cons_succ]
  refine wpAnyH_take (i := 4) (v := ?vk21) (getOp rfl) (by kernel_rfl) (by kernel_rfl) (by kernel_rfl) (fun _ _ _ h => h) (Or.inl ⟨?hwk21, ?hyk21⟩) hHeld ?restk21
  case hwk21 => rfl
  case hyk21 =>
    intro V hSV
    go_simp
    with_reducible rfl
  try simp only [Act.put, List.setIfInBounds_toArray, List.set_cons_zero, List.set_cons_succ]
  refine wpAnyH_take (i := 6) (v := ?vk22) (getOp rfl) (by kernel_rfl) (by kernel_rfl) (by kernel_rfl) (fun _ _ _ h => h) (Or.inl ⟨?hwk22, ?hyk22⟩) hHeld ?restk22
  case hwk22 => rfl
  case hyk22 =>
    intro V hSV
    go_simp
    with_reducible rfl
  try simp only [Act.put, List.setIfInBounds_toArray, List.set_cons_zero, List.set_cons_succ]
  refine wpAnyH_ready (rs := [5]) (by kernel_rfl) (by simp) ?_
  refine AllReadyH.cons (getOp rfl) (fun K hK => ?_) AllReadyH.nil
  go_simp
  go_at_call 19
  refine (num_pen M _ B pars _ 2 _ H13d.out.mkr (by decide) (by decide)).mono ?_
  rintro e V14 (⟨r11, L14, F14, q1, rfl, q3, q4⟩ | ⟨q1, rfl, q3, q4⟩)
  rotate_left
  · have HE := Lib.hid (H13d.out.fail (tell := fun r => .tuple #[.int .i64 ((r.getD 7 0 : Nat) : Int), .int .i64 ((r.getD 13 0 : Nat) : Int)]) rfl q1 q3 q4)
    clear q1 q3 q4
    go_wp2_with fail
    exact ⟨rfl, HE.out⟩
  have H14 := Lib.hid (H13d.out.next rfl q1 q3 q4)
  clear q1 q3 q4
  go_wp2_with fail
  refine hK.out _ _ (H14.out.cell) (fun hHeld => ?_)
  clear hK K
  try simp only [Act.put, List.setIfInBounds_toArray, List.set_cons_zero, List.set_cons_succ]
  refine wpAnyH_ready (rs := [7]) (by kernel_rfl) (by simp) ?_
  refine AllReadyH.cons (getOp rfl) (fun K hK => ?_) AllReadyH.nil
  go_simp
  go_at_call 20
  refine (two_pen M _ B pars _ 5 r11 r10 _ H14.out.mkr (by decide) (H14.out.fits (by decide) (H14.out.lt r11 (by simp)) (H14.out.lt r10 (by simp))) fields_5 (H14.out.lt r11 (by simp)) (H14.out.lt r10 (by simp))).mono ?_
  rintro e V15 (⟨r12, L15, F15, q1, rfl, q3, q4⟩ | ⟨q1, rfl, q3, q4⟩)
  rotate_left
  · have HE := Lib.hid (H14.out.fail (tell := fun r => .tuple #[.int .i64 ((r.getD 7 0 : Nat) : Int), .int .i64 ((r.getD 13 0 : Nat) : Int)]) rfl q1 q3 q4)
    clear q1 q3 q4
    go_wp2_with fail
    exact ⟨rfl, HE.out⟩
  have H15 := Lib.hid (H14.out.next rfl q1 q3 q4)
  clear q1 q3 q4
  go_wp2_with fail
  refine hK.out _ _ (H15.out.cell) (fun hHeld => ?_)
  clear hK K
  try simp only [Act.put, List.setIfInBounds_toArray, List.set_cons_zero, List.set_cons_succ]
  refine wpAnyH_ready (rs := [8]) (by kernel_rfl) (by simp) ?_
  refine AllReadyH.cons (getOp rfl) (fun K hK => ?_) AllReadyH.nil
  go_simp
  go_at_call 20
  refine (two_pen M _ B pars _ 4 r9 r12 _ H15.out.mkr (by decide) (H15.out.fits (by decide) (H15.out.lt r9 (by simp)) (H15.out.lt r12 (by simp))) fields_4 (H15.out.lt r9 (by simp)) (H15.out.lt r12 (by simp))).mono ?_
  rintro e V16 (⟨r13, L16, F16, q1, rfl, q3, q4⟩ | ⟨q1, rfl, q3, q4⟩)
  rotate_left
  · have HE := Lib.hid (H15.out.fail (tell := fun r => .tuple #[.int .i64 ((r.getD 7 0 : Nat) : Int), .int .i64 ((r.getD 13 0 : Nat) : Int)]) rfl q1 q3 q4)
    clear q1 q3 q4
    go_wp2_with fail
    exact ⟨rfl, HE.out⟩
  have H16 := Lib.hid (H15.out.next rfl q1 q3 q4)
  clear q1 q3 q4
  go_wp2_with fail
  refine hK.out _ _ (H16.out.cell) (fun hHeld => ?_)
  clear hK K
  try simp only [Act.put, List.setIfInBounds_toArray, List.set_cons_zero, List.set_cons_succ]
  refine wpAnyH_take (i := 9) (v := ?vk23) (getOp rfl) (by kernel_rfl) (by kernel_rfl) (by kernel_rfl) (fun _ _ _ h => h) (Or.inl ⟨?hwk23, ?hyk23⟩) hHeld ?restk23
  case hwk23 => rfl
  case hyk23 =>
    intro V hSV
    go_simp
    with_reducible rfl
  try simp only [Act.put, List.setIfInBounds_toArray, List.set_cons_zero, List.set_cons_succ]
  refine wpAnyH_take (i := 10) (v := ?vk24) (getOp rfl) (by kernel_rfl) (by kernel_rfl) (by kernel_rfl) (fun _ _ _ h => h) (Or.inl ⟨?hwk24, ?hyk24⟩) hHeld ?restk24
  case hwk24 => rfl
  case hyk24 =>
    intro V hSV
    go_simp
    with_reducible rfl
  try simp only [Act.put, List.setIfInBounds_toArray, List.set_cons_zero, List.set_cons_succ]
  refine wpAnyH_done (by kernel_rfl) ?_ _
  go_wp2_with fail
  go_ret2
  exact H16.out.done _ rfl
end Go.Proofs.Ytljgiagdmnedpaa.Tape_
