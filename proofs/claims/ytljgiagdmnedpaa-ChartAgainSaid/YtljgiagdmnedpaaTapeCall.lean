/-
tape: step, One, Two, Num, Par. (Printed by gen_tapecall.py.)
-/
import Derived.Test.YtljgiagdmnedpaaTapeStep
namespace Go.Proofs.Ytljgiagdmnedpaa.Tape_
open Go.RowKit Nat_ Frac_

theorem PutE.below {w V w' : World} {M : Nat} {F : Nat → Prop} {B pars : Nat} {L : List Key} {k : Key} {e : Ending} (hb : Below w.heap.size w V) (h : PutE V M F B pars L k e w') : PutE w M F B pars L k e w' := by
  rcases h with ⟨i, L', F', h1, h2, h3, h4⟩ | ⟨h1, h2, h3, h4⟩
  · exact .inl ⟨i, L', F', h1, h2, h3, (Sp.of_below hb).trans h4⟩
  · exact .inr ⟨h1, h2, h3, (Sp.of_below hb).trans h4⟩
/-- What is told is a place and an error. -/
theorem PutE.form {w w' : World} {M : Nat} {F : Nat → Prop} {B pars : Nat} {L : List Key} {k : Key} {e : Ending} (h : PutE w M F B pars L k e w') : ∃ i no : Int, e = .returned (.tuple #[.int .i64 i, .int .i64 no]) ∧ Hid (PutE w M F B pars L k (.returned (.tuple #[.int .i64 i, .int .i64 no])) w') := by
  rcases h with ⟨i, L', F', h1, h2, h3, h4⟩ | ⟨h1, h2, h3, h4⟩
  · exact ⟨_, _, h2, Lib.hid (.inl ⟨i, L', F', h1, rfl, h3, h4⟩)⟩
  · exact ⟨_, _, h2, Lib.hid (.inr ⟨h1, rfl, h3, h4⟩)⟩
set_option maxRecDepth 100000 in
set_option maxHeartbeats 2000000 in
theorem step_two (M : Nat) (F : Nat → Prop) (B pars : Nat) (L : List Key) (op x y : Nat) (w : World) (h : Mkr w M F B pars L) (hop : op ≠ 1) (hfit : Fits ⟨op, x, y, []⟩) (hf : FieldsOf op 3)
    (hr : ∀ V : World, Calls Try.prog 41 #[.agg #[.int .u8 (op : Int), .int .i64 (x : Int), .int .i64 (y : Int), .bool false, .slice none 0 0, .slice none 0 0], .int .i64 (L.length : Int), .int .i64 (pars : Int)] V fun e w' => e = .returned (.bool true) ∧ Below V.heap.size V w') :
    Calls Try.prog 28 #[.pointer (some ⟨M, 0, none⟩), .agg #[.int .u8 (op : Int), .int .i64 (x : Int), .int .i64 (y : Int), .bool false, .slice none 0 0, .slice none 0 0], .int .i64 3] w (PutE w M F B pars L ⟨op, x, y, []⟩) := by
  obtain ⟨W, hW⟩ : ∃ W, w.alloc (.cells #[.int .u8 (op : Int), .int .i64 (x : Int), .int .i64 (y : Int), .bool false, .slice none 0 0, .slice none 0 0] 49) = W := ⟨_, rfl⟩
  obtain ⟨G, hG⟩ : ∃ G, w.heap.size = G := ⟨_, rfl⟩
  have hbw : Below w.heap.size w W := by rw [← hW]; exact (Below.refl w.heap.size w).alloc (Nat.le_refl _) _
  have k1 : Blk W G 49 [.int .u8 (op : Int), .int .i64 (x : Int), .int .i64 (y : Int), .bool false, .slice none 0 0, .slice none 0 0] := by rw [← hW]; exact blk_new _ _ [_, _, _, _, _, _] _ hG
  have hP := fun V (hV : Below W.heap.size W V) => put_op M F B pars L op x y V ((h.below hbw).below hV) hop hfit
  have hM := h.below hbw
  obtain ⟨b, v, xs, h1, h2, h3, -⟩ := hM
  obtain ⟨va, vc, rfl⟩ := row_slice h3
  have c3 := h1.cell 3
  have FS := Lib.hid (fun (V : World) (hV : Below W.heap.size W V) =>
    (show V.cell? ⟨M, 1, none⟩ = some (.int .i64 (pars : Int)) ∧ V.cell? ⟨M, 2, none⟩ = some (.slice va L.length vc) ∧ V.cell? ⟨G, 0, none⟩ = some (.int .u8 (op : Int)) ∧ V.cell? ⟨G, 1, none⟩ = some (.int .i64 (x : Int)) ∧ V.cell? ⟨G, 2, none⟩ = some (.int .i64 (y : Int)) ∧ V.cell? ⟨G, 3, none⟩ = some (.bool false) ∧ V.cell? ⟨G, 4, none⟩ = some (.slice none 0 0) ∧ V.cell? ⟨G, 5, none⟩ = some (.slice none 0 0) ∧ Below W.heap.size W V from
      ⟨(h1.below hV h1.lt).cell 1, (h1.below hV h1.lt).cell 2, (k1.below hV k1.lt).cell 0, (k1.below hV k1.lt).cell 1, (k1.below hV k1.lt).cell 2, (k1.below hV k1.lt).cell 3, (k1.below hV k1.lt).cell 4, (k1.below hV k1.lt).cell 5, hV⟩))
  have HB0 := Lib.hid (Below.refl W.heap.size W)
  have HBd := Lib.hid (Below.refl W.heap.size W).drew
  have S0 := Lib.hid (FS.out _ HBd.out)
  have CF := Lib.hid (fun V (hV : Below W.heap.size W V) => (hf V).mono (fun e w' (hh : e = .returned (.int .i64 3) ∧ Below V.heap.size V w') => (show e = .returned (.int .i64 3) ∧ Below W.heap.size W w' from ⟨hh.1, hV.trans (hh.2.mono hV.size)⟩)))
  have CR := Lib.hid (fun V (hV : Below W.heap.size W V) => (hr V).mono (fun e w' (hh : e = .returned (.bool true) ∧ Below V.heap.size V w') => (show e = .returned (.bool true) ∧ Below W.heap.size W w' from ⟨hh.1, hV.trans (hh.2.mono hV.size)⟩)))
  have HP := Lib.hid hP
  have HW := Lib.hid (And.intro hW hbw)
  have HM := Lib.hid h1.lt
  simp only [List.getElem?_cons_zero, List.getElem?_cons_succ] at c3
  clear hW hbw k1 hP h1 h2 h3 h hf hr hop hfit
  go_enter Try.func28, Try.ntmps28
  go_wp2_with (rw [HW.out.1]; go_at_call 12; refine (there_ok M b W c3).mono ?_; rintro e wt ⟨rfl, rfl⟩)
  go_region_held3 (fun V => V.cell? ⟨M, 1, none⟩ = some (.int .i64 (pars : Int)) ∧ V.cell? ⟨M, 2, none⟩ = some (.slice va L.length vc) ∧ V.cell? ⟨G, 0, none⟩ = some (.int .u8 (op : Int)) ∧ V.cell? ⟨G, 1, none⟩ = some (.int .i64 (x : Int)) ∧ V.cell? ⟨G, 2, none⟩ = some (.int .i64 (y : Int)) ∧ V.cell? ⟨G, 3, none⟩ = some (.bool false) ∧ V.cell? ⟨G, 4, none⟩ = some (.slice none 0 0) ∧ V.cell? ⟨G, 5, none⟩ = some (.slice none 0 0) ∧ Below wt.heap.size wt V)
    ((with_reducible first | (exact S0.out) | (exact FS.out _ (by assumption))))
    (first
    | (go_at_call 40; (with_reducible refine (CF.out _ (by first | assumption | (exact HB0.out) | (exact HBd.out))).mono ?_); rintro e wf ⟨rfl, hbf⟩)
    | (go_at_call 41; (with_reducible refine (CR.out _ (by assumption)).mono ?_); rintro e wr ⟨rfl, hbr⟩)
    | fail)
  obtain ⟨-, -, e0, e1, e2, e3, e4, e5, -⟩ := FS.out wr hbr
  have HBR := Lib.hid hbr
  have C := Lib.hid ((HP.out wr hbr).mono (fun e w' hh => (PutE.below hbr hh).form))
  clear hbr hbf
  go_wp2_with fail
  refine C.out.mono ?_
  rintro e w' ⟨i, no, rfl, hh⟩
  go_wp2_with fail
  go_ret2
  exact PutE.below HW.out.2 hh.out
set_option maxRecDepth 100000 in
set_option maxHeartbeats 2000000 in
theorem step_one (M : Nat) (F : Nat → Prop) (B pars : Nat) (L : List Key) (op x : Nat) (w : World) (h : Mkr w M F B pars L) (hop : op ≠ 1) (hfit : Fits ⟨op, x, 0, []⟩) (hf : FieldsOf op 4)
    (hr : ∀ V : World, Calls Try.prog 41 #[.agg #[.int .u8 (op : Int), .int .i64 (x : Int), .int .i64 0, .bool false, .slice none 0 0, .slice none 0 0], .int .i64 (L.length : Int), .int .i64 (pars : Int)] V fun e w' => e = .returned (.bool true) ∧ Below V.heap.size V w') :
    Calls Try.prog 28 #[.pointer (some ⟨M, 0, none⟩), .agg #[.int .u8 (op : Int), .int .i64 (x : Int), .int .i64 0, .bool false, .slice none 0 0, .slice none 0 0], .int .i64 4] w (PutE w M F B pars L ⟨op, x, 0, []⟩) := by
  obtain ⟨W, hW⟩ : ∃ W, w.alloc (.cells #[.int .u8 (op : Int), .int .i64 (x : Int), .int .i64 0, .bool false, .slice none 0 0, .slice none 0 0] 49) = W := ⟨_, rfl⟩
  obtain ⟨G, hG⟩ : ∃ G, w.heap.size = G := ⟨_, rfl⟩
  have hbw : Below w.heap.size w W := by rw [← hW]; exact (Below.refl w.heap.size w).alloc (Nat.le_refl _) _
  have k1 : Blk W G 49 [.int .u8 (op : Int), .int .i64 (x : Int), .int .i64 0, .bool false, .slice none 0 0, .slice none 0 0] := by rw [← hW]; exact blk_new _ _ [_, _, _, _, _, _] _ hG
  have hP := fun V (hV : Below W.heap.size W V) => put_op M F B pars L op x 0 V ((h.below hbw).below hV) hop hfit
  have hM := h.below hbw
  obtain ⟨b, v, xs, h1, h2, h3, -⟩ := hM
  obtain ⟨va, vc, rfl⟩ := row_slice h3
  have c3 := h1.cell 3
  have FS := Lib.hid (fun (V : World) (hV : Below W.heap.size W V) =>
    (show V.cell? ⟨M, 1, none⟩ = some (.int .i64 (pars : Int)) ∧ V.cell? ⟨M, 2, none⟩ = some (.slice va L.length vc) ∧ V.cell? ⟨G, 0, none⟩ = some (.int .u8 (op : Int)) ∧ V.cell? ⟨G, 1, none⟩ = some (.int .i64 (x : Int)) ∧ V.cell? ⟨G, 2, none⟩ = some (.int .i64 0) ∧ V.cell? ⟨G, 3, none⟩ = some (.bool false) ∧ V.cell? ⟨G, 4, none⟩ = some (.slice none 0 0) ∧ V.cell? ⟨G, 5, none⟩ = some (.slice none 0 0) ∧ Below W.heap.size W V from
      ⟨(h1.below hV h1.lt).cell 1, (h1.below hV h1.lt).cell 2, (k1.below hV k1.lt).cell 0, (k1.below hV k1.lt).cell 1, (k1.below hV k1.lt).cell 2, (k1.below hV k1.lt).cell 3, (k1.below hV k1.lt).cell 4, (k1.below hV k1.lt).cell 5, hV⟩))
  have HB0 := Lib.hid (Below.refl W.heap.size W)
  have HBd := Lib.hid (Below.refl W.heap.size W).drew
  have S0 := Lib.hid (FS.out _ HBd.out)
  have CF := Lib.hid (fun V (hV : Below W.heap.size W V) => (hf V).mono (fun e w' (hh : e = .returned (.int .i64 4) ∧ Below V.heap.size V w') => (show e = .returned (.int .i64 4) ∧ Below W.heap.size W w' from ⟨hh.1, hV.trans (hh.2.mono hV.size)⟩)))
  have CR := Lib.hid (fun V (hV : Below W.heap.size W V) => (hr V).mono (fun e w' (hh : e = .returned (.bool true) ∧ Below V.heap.size V w') => (show e = .returned (.bool true) ∧ Below W.heap.size W w' from ⟨hh.1, hV.trans (hh.2.mono hV.size)⟩)))
  have HP := Lib.hid hP
  have HW := Lib.hid (And.intro hW hbw)
  have HM := Lib.hid h1.lt
  simp only [List.getElem?_cons_zero, List.getElem?_cons_succ] at c3
  clear hW hbw k1 hP h1 h2 h3 h hf hr hop hfit
  go_enter Try.func28, Try.ntmps28
  go_wp2_with (rw [HW.out.1]; go_at_call 12; refine (there_ok M b W c3).mono ?_; rintro e wt ⟨rfl, rfl⟩)
  go_region_held3 (fun V => V.cell? ⟨M, 1, none⟩ = some (.int .i64 (pars : Int)) ∧ V.cell? ⟨M, 2, none⟩ = some (.slice va L.length vc) ∧ V.cell? ⟨G, 0, none⟩ = some (.int .u8 (op : Int)) ∧ V.cell? ⟨G, 1, none⟩ = some (.int .i64 (x : Int)) ∧ V.cell? ⟨G, 2, none⟩ = some (.int .i64 0) ∧ V.cell? ⟨G, 3, none⟩ = some (.bool false) ∧ V.cell? ⟨G, 4, none⟩ = some (.slice none 0 0) ∧ V.cell? ⟨G, 5, none⟩ = some (.slice none 0 0) ∧ Below wt.heap.size wt V)
    ((with_reducible first | (exact S0.out) | (exact FS.out _ (by assumption))))
    (first
    | (go_at_call 40; (with_reducible refine (CF.out _ (by first | assumption | (exact HB0.out) | (exact HBd.out))).mono ?_); rintro e wf ⟨rfl, hbf⟩)
    | (go_at_call 41; (with_reducible refine (CR.out _ (by assumption)).mono ?_); rintro e wr ⟨rfl, hbr⟩)
    | fail)
  obtain ⟨-, -, e0, e1, e2, e3, e4, e5, -⟩ := FS.out wr hbr
  have HBR := Lib.hid hbr
  have C := Lib.hid ((HP.out wr hbr).mono (fun e w' hh => (PutE.below hbr hh).form))
  clear hbr hbf
  go_wp2_with fail
  refine C.out.mono ?_
  rintro e w' ⟨i, no, rfl, hh⟩
  go_wp2_with fail
  go_ret2
  exact PutE.below HW.out.2 hh.out
set_option maxRecDepth 100000 in
set_option maxHeartbeats 2000000 in
theorem step_bad (M : Nat) (F : Nat → Prop) (B pars : Nat) (L : List Key) (w : World) (h : Mkr w M F B pars L) :
    Calls Try.prog 28 #[.pointer (some ⟨M, 0, none⟩), .agg #[.int .u8 0, .int .i64 0, .int .i64 0, .bool false, .slice none 0 0, .slice none 0 0], .int .i64 4] w fun e w' => e = .returned (.tuple #[.int .i64 0, .int .i64 2]) ∧ Below w.heap.size w w' := by
  obtain ⟨W, hW⟩ : ∃ W, w.alloc (.cells #[.int .u8 0, .int .i64 0, .int .i64 0, .bool false, .slice none 0 0, .slice none 0 0] 49) = W := ⟨_, rfl⟩
  obtain ⟨G, hG⟩ : ∃ G, w.heap.size = G := ⟨_, rfl⟩
  have hbw : Below w.heap.size w W := by rw [← hW]; exact (Below.refl w.heap.size w).alloc (Nat.le_refl _) _
  have k1 : Blk W G 49 [.int .u8 0, .int .i64 0, .int .i64 0, .bool false, .slice none 0 0, .slice none 0 0] := by rw [← hW]; exact blk_new _ _ [_, _, _, _, _, _] _ hG
  have hM := h.below hbw
  obtain ⟨b, v, xs, h1, h2, h3, -⟩ := hM
  have c3 := h1.cell 3
  have FS := Lib.hid (fun (V : World) (hV : Below W.heap.size W V) =>
    (show V.cell? ⟨G, 0, none⟩ = some (.int .u8 0) ∧ Below W.heap.size W V from ⟨(k1.below hV k1.lt).cell 0, hV⟩))
  have HB0 := Lib.hid (Below.refl W.heap.size W)
  have HBd := Lib.hid (Below.refl W.heap.size W).drew
  have S0 := Lib.hid (FS.out _ HBd.out)
  have CF := Lib.hid (fun V (hV : Below W.heap.size W V) => (show Calls Try.prog 40 #[.int .u8 0] V _ from fields_0 V).mono (fun e w' (hh : e = .returned (.int .i64 0) ∧ Below V.heap.size V w') => (show e = .returned (.int .i64 0) ∧ Below W.heap.size W w' from ⟨hh.1, hV.trans (hh.2.mono hV.size)⟩)))
  have HW := Lib.hid (And.intro hW hbw)
  simp only [List.getElem?_cons_zero, List.getElem?_cons_succ] at c3
  clear hW hbw k1 h1 h2 h3 h
  go_enter Try.func28, Try.ntmps28
  go_wp2_with (rw [HW.out.1]; go_at_call 12; refine (there_ok M b W c3).mono ?_; rintro e wt ⟨rfl, rfl⟩)
  refine wp_region_noPanic ?_
  refine wp_region_held_drew (S := fun V => V.cell? ⟨G, 0, none⟩ = some (.int .u8 0) ∧ Below wt.heap.size wt V) (by kernel_rfl) S0.out (fun hHeld => ?_)
  refine wpAnyH_take (i := 0) (v := ?vp0) (getOp rfl) (by kernel_rfl) (by kernel_rfl) (by kernel_rfl) (fun _ _ _ h => h) (Or.inl ⟨?hwp0, ?hyp0⟩) hHeld ?restp0
  case hwp0 => rfl
  case hyp0 =>
    intro V hSV
    go_simp
    with_reducible rfl
  try simp only [Act.put, List.setIfInBounds_toArray, List.set_cons_zero, List.set_cons_succ]
  refine wpAnyH_take (i := 1) (v := ?vp1) (getOp rfl) (by kernel_rfl) (by kernel_rfl) (by kernel_rfl) (fun _ _ _ h => h) (Or.inl ⟨?hwp1, ?hyp1⟩) hHeld ?restp1
  case hwp1 => rfl
  case hyp1 =>
    intro V hSV
    go_simp
    with_reducible rfl
  try simp only [Act.put, List.setIfInBounds_toArray, List.set_cons_zero, List.set_cons_succ]
  refine wpAnyH_take (i := 3) (v := ?vp3) (getOp rfl) (by kernel_rfl) (by kernel_rfl) (by kernel_rfl) (fun _ _ _ h => h) (Or.inl ⟨?hwp3, ?hyp3⟩) hHeld ?restp3
  case hwp3 => rfl
  case hyp3 =>
    intro V hSV
    go_simp
    with_reducible rfl
  try simp only [Act.put, List.setIfInBounds_toArray, List.set_cons_zero, List.set_cons_succ]
  refine wpAnyH_ready (rs := [2]) (by kernel_rfl) (by simp) ?_
  refine AllReadyH.cons (getOp rfl) (fun K hK => ?_) AllReadyH.nil
  go_simp
  go_at_call 40
  refine (CF.out _ HBd.out).mono ?_
  rintro e wf ⟨rfl, hbf⟩
  go_wp2_with fail
  refine hK.out _ _ (FS.out _ hbf) (fun hHeld => ?_)
  clear hK K
  try simp only [Act.put, List.setIfInBounds_toArray, List.set_cons_zero, List.set_cons_succ]
  refine wpAnyH_take (i := 4) (v := ?vp4) (getOp rfl) (by kernel_rfl) (by kernel_rfl) (by kernel_rfl) (fun _ _ _ h => h) (Or.inl ⟨?hwp4, ?hyp4⟩) hHeld ?restp4
  case hwp4 => rfl
  case hyp4 =>
    intro V hSV
    go_simp
    with_reducible rfl
  try simp only [Act.put, List.setIfInBounds_toArray, List.set_cons_zero, List.set_cons_succ]
  refine wpAnyH_take (i := 5) (v := ?vp5) (getOp rfl) (by kernel_rfl) (by kernel_rfl) (by kernel_rfl) (fun _ _ _ h => h) (Or.inl ⟨?hwp5, ?hyp5⟩) hHeld ?restp5
  case hwp5 => rfl
  case hyp5 =>
    intro V hSV
    go_simp
    with_reducible rfl
  try simp only [Act.put, List.setIfInBounds_toArray, List.set_cons_zero, List.set_cons_succ]
  refine wpAnyH_take (i := 6) (v := undef) (getOp rfl) (by kernel_rfl) (by kernel_rfl) (by kernel_rfl) (fun _ _ _ h => h) (Or.inr ⟨by rfl, rfl⟩) hHeld ?restp6
  try simp only [Act.put, List.setIfInBounds_toArray, List.set_cons_zero, List.set_cons_succ]
  refine wpAnyH_take (i := 7) (v := undef) (getOp rfl) (by kernel_rfl) (by kernel_rfl) (by kernel_rfl) (fun _ _ _ h => h) (Or.inr ⟨by rfl, rfl⟩) hHeld ?restp7
  try simp only [Act.put, List.setIfInBounds_toArray, List.set_cons_zero, List.set_cons_succ]
  refine wpAnyH_take (i := 8) (v := undef) (getOp rfl) (by kernel_rfl) (by kernel_rfl) (by kernel_rfl) (fun _ _ _ h => h) (Or.inr ⟨by rfl, rfl⟩) hHeld ?restp8
  try simp only [Act.put, List.setIfInBounds_toArray, List.set_cons_zero, List.set_cons_succ]
  refine wpAnyH_take (i := 9) (v := undef) (getOp rfl) (by kernel_rfl) (by kernel_rfl) (by kernel_rfl) (fun _ _ _ h => h) (Or.inr ⟨by rfl, rfl⟩) hHeld ?restp9
  try simp only [Act.put, List.setIfInBounds_toArray, List.set_cons_zero, List.set_cons_succ]
  refine wpAnyH_take (i := 10) (v := undef) (getOp rfl) (by kernel_rfl) (by kernel_rfl) (by kernel_rfl) (fun _ _ _ h => h) (Or.inr ⟨by rfl, rfl⟩) hHeld ?restp10
  try simp only [Act.put, List.setIfInBounds_toArray, List.set_cons_zero, List.set_cons_succ]
  refine wpAnyH_take (i := 11) (v := undef) (getOp rfl) (by kernel_rfl) (by kernel_rfl) (by kernel_rfl) (fun _ _ _ h => h) (Or.inr ⟨by rfl, rfl⟩) hHeld ?restp11
  try simp only [Act.put, List.setIfInBounds_toArray, List.set_cons_zero, List.set_cons_succ]
  refine wpAnyH_take (i := 12) (v := undef) (getOp rfl) (by kernel_rfl) (by kernel_rfl) (by kernel_rfl) (fun _ _ _ h => h) (Or.inr ⟨by rfl, rfl⟩) hHeld ?restp12
  try simp only [Act.put, List.setIfInBounds_toArray, List.set_cons_zero, List.set_cons_succ]
  refine wpAnyH_take (i := 13) (v := undef) (getOp rfl) (by kernel_rfl) (by kernel_rfl) (by kernel_rfl) (fun _ _ _ h => h) (Or.inr ⟨by rfl, rfl⟩) hHeld ?restp13
  try simp only [Act.put, List.setIfInBounds_toArray, List.set_cons_zero, List.set_cons_succ]
  refine wpAnyH_take (i := 14) (v := undef) (getOp rfl) (by kernel_rfl) (by kernel_rfl) (by kernel_rfl) (fun _ _ _ h => h) (Or.inr ⟨by rfl, rfl⟩) hHeld ?restp14
  try simp only [Act.put, List.setIfInBounds_toArray, List.set_cons_zero, List.set_cons_succ]
  refine wpAnyH_take (i := 15) (v := undef) (getOp rfl) (by kernel_rfl) (by kernel_rfl) (by kernel_rfl) (fun _ _ _ h => h) (Or.inr ⟨by rfl, rfl⟩) hHeld ?restp15
  try simp only [Act.put, List.setIfInBounds_toArray, List.set_cons_zero, List.set_cons_succ]
  refine wpAnyH_take (i := 16) (v := undef) (getOp rfl) (by kernel_rfl) (by kernel_rfl) (by kernel_rfl) (fun _ _ _ h => h) (Or.inr ⟨by rfl, rfl⟩) hHeld ?restp16
  try simp only [Act.put, List.setIfInBounds_toArray, List.set_cons_zero, List.set_cons_succ]
  refine wpAnyH_take (i := 17) (v := undef) (getOp rfl) (by kernel_rfl) (by kernel_rfl) (by kernel_rfl) (fun _ _ _ h => h) (Or.inr ⟨by rfl, rfl⟩) hHeld ?restp17
  try simp only [Act.put, List.setIfInBounds_toArray, List.set_cons_zero, List.set_cons_succ]
  refine wpAnyH_take (i := 18) (v := ?vp18) (getOp rfl) (by kernel_rfl) (by kernel_rfl) (by kernel_rfl) (fun _ _ _ h => h) (Or.inl ⟨?hwp18, ?hyp18⟩) hHeld ?restp18
  case hwp18 => rfl
  case hyp18 =>
    intro V hSV
    go_simp
    with_reducible rfl
  try simp only [Act.put, List.setIfInBounds_toArray, List.set_cons_zero, List.set_cons_succ]
  refine wpAnyH_take (i := 19) (v := ?vp19) (getOp rfl) (by kernel_rfl) (by kernel_rfl) (by kernel_rfl) (fun _ _ _ h => h) (Or.inl ⟨?hwp19, ?hyp19⟩) hHeld ?restp19
  case hwp19 => rfl
  case hyp19 =>
    intro V hSV
    go_simp
    with_reducible rfl
  try simp only [Act.put, List.setIfInBounds_toArray, List.set_cons_zero, List.set_cons_succ]
  refine wpAnyH_done (by kernel_rfl) ?_ _
  refine NoPanic.normal ?_
  have HBR := Lib.hid hbf
  clear hbf
  go_wp2_with fail
  go_ret2
  exact ⟨rfl, HW.out.2.trans (HBR.out.mono HW.out.2.size)⟩
theorem step_nil (n : Value) (h : Int) (op : Nat) (x y : Int) (w : World) (hn : n = .agg #[.int .u8 (op : Int), .int .i64 x, .int .i64 y, .bool false, .slice none 0 0, .slice none 0 0]) :
    Calls Try.prog 28 #[.pointer none, n, .int .i64 h] w fun e w' => e = .returned (.tuple #[.int .i64 0, .int .i64 1]) ∧ Below w.heap.size w w' := by
  subst hn
  have HB := Lib.hid ((Below.refl w.heap.size w).alloc (Nat.le_refl _) (.cells #[.int .u8 (op : Int), .int .i64 x, .int .i64 y, .bool false, .slice none 0 0, .slice none 0 0] 49))
  go_enter Try.func28, Try.ntmps28
  go_wp2_with (go_at_call 12; refine (there_nil _).mono ?_; rintro e wt ⟨rfl, rfl⟩)
  go_ret2
  exact ⟨rfl, HB.out⟩
theorem one_ok (M : Nat) (F : Nat → Prop) (B pars : Nat) (L : List Key) (op x : Nat) (w : World) (h : Mkr w M F B pars L) (hop : op ≠ 1) (hfit : Fits ⟨op, x, 0, []⟩) (hf : FieldsOf op 4) (hx : x < L.length) :
    Calls Try.prog 17 #[.pointer (some ⟨M, 0, none⟩), .int .u8 (op : Int), .int .i64 (x : Int)] w (PutE w M F B pars L ⟨op, x, 0, []⟩) := by
  have C := Lib.hid ((step_one M F B pars L op x w h hop hfit hf (fun V => right_one op x L.length pars V hf hx)).mono (fun e w' hh => hh.form))
  clear h hop hfit hf hx
  go_enter Try.func17, Try.ntmps17
  go_wp2_with fail
  refine C.out.mono ?_
  rintro e w' ⟨i, no, rfl, hh⟩
  go_wp2_with fail
  go_ret2
  exact hh.out
theorem one_bad (M : Nat) (F : Nat → Prop) (B pars : Nat) (L : List Key) (w : World) (h : Mkr w M F B pars L) :
    Calls Try.prog 17 #[.pointer (some ⟨M, 0, none⟩), .int .u8 0, .int .i64 0] w fun e w' => e = .returned (.tuple #[.int .i64 0, .int .i64 2]) ∧ Below w.heap.size w w' := by
  have C := Lib.hid (step_bad M F B pars L w h)
  clear h
  go_enter Try.func17, Try.ntmps17
  go_wp2_with fail
  refine C.out.mono ?_
  rintro e w' ⟨rfl, hb⟩
  go_wp2_with fail
  go_ret2
  exact ⟨rfl, hb⟩
theorem one_nil (w : World) :
    Calls Try.prog 17 #[.pointer none, .int .u8 0, .int .i64 0] w fun e w' => e = .returned (.tuple #[.int .i64 0, .int .i64 1]) ∧ Below w.heap.size w w' := by
  have C := Lib.hid (step_nil _ 4 0 0 0 w rfl)
  go_enter Try.func17, Try.ntmps17
  go_wp2_with fail
  refine C.out.mono ?_
  rintro e w' ⟨rfl, hb⟩
  go_wp2_with fail
  go_ret2
  exact ⟨rfl, hb⟩
theorem two_ok (M : Nat) (F : Nat → Prop) (B pars : Nat) (L : List Key) (op x y : Nat) (w : World) (h : Mkr w M F B pars L) (hop : op ≠ 1) (hfit : Fits ⟨op, x, y, []⟩) (hf : FieldsOf op 3) (hx : x < L.length) (hy : y < L.length) :
    Calls Try.prog 30 #[.pointer (some ⟨M, 0, none⟩), .int .u8 (op : Int), .int .i64 (x : Int), .int .i64 (y : Int)] w (PutE w M F B pars L ⟨op, x, y, []⟩) := by
  have C := Lib.hid ((step_two M F B pars L op x y w h hop hfit hf (fun V => right_two op x y L.length pars V hf hx hy)).mono (fun e w' hh => hh.form))
  clear h hop hfit hf hx hy
  go_enter Try.func30, Try.ntmps30
  go_wp2_with fail
  refine C.out.mono ?_
  rintro e w' ⟨i, no, rfl, hh⟩
  go_wp2_with fail
  go_ret2
  exact hh.out
end Go.Proofs.Ytljgiagdmnedpaa.Tape_
