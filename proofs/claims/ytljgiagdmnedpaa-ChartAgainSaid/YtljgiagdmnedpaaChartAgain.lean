/-
Law 20's Again: its head, and its walk. (Printed by gen_again.py.)
-/
import Derived.Test.YtljgiagdmnedpaaChartMade
namespace Go.Proofs.Ytljgiagdmnedpaa.Tape_
open Go.RowKit Nat_ Frac_

theorem par_ne (x : Int) : ¬ numK x ∈ [kPar] := by
  intro h
  have h1 : numK x = kPar := by simpa using h
  have := congrArg Key.op h1
  simp [numK, kPar] at this
theorem put_new {B : Nat} {L : List Key} {k : Key} (h : ¬ k ∈ L) (hb : L.length < B) : put B L k = some (L.length, L ++ [k]) := by
  unfold put
  rw [if_neg h, if_pos hb]
theorem put_old {B : Nat} {L : List Key} {k : Key} (h : k ∈ L) : put B L k = some (L.idxOf k, L) := by
  unfold put
  rw [if_pos h]
theorem put_le {B : Nat} {L L' : List Key} {k : Key} {i : Nat} (h : put B L k = some (i, L')) (hb : L.length ≤ B) : L'.length ≤ B := by
  unfold put at h
  split at h
  · cases h
    exact hb
  · split at h
    · cases h
      simp
      omega
    · cases h
theorem run_le {B : Nat} : ∀ {fs : List (List Nat → Key)} {L L' : List Key} {rs rs' : List Nat}, runS B L rs fs = some (rs', L') → L.length ≤ B → L'.length ≤ B
  | [], L, L', rs, rs', h, hb => by
    simp only [runS] at h
    cases h
    exact hb
  | f :: fs, L, L', rs, rs', h, hb => by
    simp only [runS] at h
    split at h
    · cases h
    · rename_i i L1 hq
      exact run_le h (put_le hq hb)
/-- Two numbers and a chart are made. -/
def MGood (B : Nat) (low high : Int) (fs : Nat → Nat → List (List Nat → Key)) (i : Nat) (L1 : List Key) (k : Nat) (L2 : List Key) (rs : List Nat) (L3 : List Key) : Prop :=
  put B [kPar] (numK low) = some (i, L1) ∧ put B L1 (numK high) = some (k, L2) ∧ runS B L2 [] (fs i k) = some (rs, L3)
def MBad (B : Nat) (low high : Int) (fs : Nat → Nat → List (List Nat → Key)) : Prop :=
  put B [kPar] (numK low) = none ∨ (∃ i L1, put B [kPar] (numK low) = some (i, L1) ∧ put B L1 (numK high) = none) ∨ (∃ i L1 k L2, put B [kPar] (numK low) = some (i, L1) ∧ put B L1 (numK high) = some (k, L2) ∧ runS B L2 [] (fs i k) = none)
section
variable {B B' : Nat} {low high : Int} {fs : Nat → Nat → List (List Nat → Key)} {i k i' k' : Nat} {L1 L2 L3 L1' L2' L3' : List Key} {rs rs' : List Nat}
theorem MGood.just (h : MGood B low high fs i L1 k L2 rs L3) (hb : L3.length ≤ B') : MGood B' low high fs i L1 k L2 rs L3 := by
  obtain ⟨h1, h2, h3⟩ := h
  have p2 := (put_pre h2).1.length_le
  have p3 := (run_pre h3).length_le
  exact ⟨put_just h1 (by omega), put_just h2 (by omega), run_just h3 hb⟩
theorem MGood.uniq (h : MGood B low high fs i L1 k L2 rs L3) (h' : MGood B low high fs i' L1' k' L2' rs' L3') : rs = rs' ∧ L3 = L3' := by
  obtain ⟨h1, h2, h3⟩ := h
  obtain ⟨g1, g2, g3⟩ := h'
  rw [h1] at g1
  cases g1
  rw [h2] at g2
  cases g2
  rw [h3] at g3
  cases g3
  exact ⟨rfl, rfl⟩
theorem MGood.noBad (h : MGood B low high fs i L1 k L2 rs L3) (h' : MBad B low high fs) : False := by
  obtain ⟨h1, h2, h3⟩ := h
  rcases h' with g1 | ⟨i', L1', g1, g2⟩ | ⟨i', L1', k', L2', g1, g2, g3⟩
  · rw [h1] at g1
    cases g1
  · rw [h1] at g1
    cases g1
    rw [h2] at g2
    cases g2
  · rw [h1] at g1
    cases g1
    rw [h2] at g2
    cases g2
    rw [h3] at g3
    cases g3
theorem noBad_room (hB : 17 ≤ B) (hf : ∀ i k, (fs i k).length ≤ 14) (h' : MBad B low high fs) : False := by
  have h1 : put B [kPar] (numK low) = some (1, [kPar, numK low]) := put_new (par_ne low) (by simp; omega)
  obtain ⟨k0, L0, h2, h3⟩ : ∃ k0 L0, put B [kPar, numK low] (numK high) = some (k0, L0) ∧ L0.length ≤ 3 := by
    by_cases hm : numK high ∈ [kPar, numK low]
    · exact ⟨_, _, put_old hm, by simp⟩
    · exact ⟨_, _, put_new hm (by simp; omega), by simp⟩
  rcases h' with g1 | ⟨i', L1', g1, g2⟩ | ⟨i', L1', k', L2', g1, g2, g3⟩
  · rw [h1] at g1
    cases g1
  · rw [h1] at g1
    cases g1
    rw [h2] at g2
    cases g2
  · rw [h1] at g1
    cases g1
    rw [h2] at g2
    cases g2
    obtain ⟨r, L', hr, -⟩ := run_room (B := B) (fs := fs 1 k0) (L := L0) (rs := []) (by have := hf 1 k0; omega)
    rw [hr] at g3
    cases g3
theorem MGood.long (h : MGood B low high fs i L1 k L2 rs L3) (hB : 1 ≤ B) : 2 ≤ L3.length ∧ L3.length ≤ B ∧ i < L3.length ∧ k < L3.length := by
  obtain ⟨h1, h2, h3⟩ := h
  have p1 := (put_pre h1)
  have p2 := (put_pre h2).1.length_le
  have p3 := (run_pre h3).length_le
  have q1 := put_lt h1
  have q2 := put_lt h2
  have e1 := put_le h1 (by simpa using hB)
  have e2 := put_le h2 e1
  have e3 := run_le h3 e2
  have hl : 2 ≤ L1.length := by
    unfold put at h1
    rw [if_neg (par_ne low)] at h1
    split at h1
    · cases h1
      simp
    · cases h1
  exact ⟨by omega, e3, by omega, by omega⟩
theorem MGood.again (h : MGood B low high fs i L1 k L2 rs L3) : put B L3 (numK low) = some (i, L3) ∧ put B L3 (numK high) = some (k, L3) ∧ runS B L3 [] (fs i k) = some (rs, L3) := by
  obtain ⟨h1, h2, h3⟩ := h
  have p3 := run_pre h3
  exact ⟨put_again h1 ((put_pre h2).1.trans p3), put_again h2 p3, run_again h3 (List.prefix_refl _)⟩
theorem MGood.less (h : MGood B low high fs i L1 k L2 rs L3) (hB : 1 ≤ B) (h1 : 1 ≤ B') (hb : B' < L3.length) (h' : MGood B' low high fs i' L1' k' L2' rs' L3') : False := by
  have l1 := h.long hB
  have l2 := h'.long h1
  have h2 := h'.just (B' := B) (by omega)
  obtain ⟨-, he⟩ := h.uniq h2
  rw [← he] at l2
  omega
end
/-- What the head's puts come to. -/
theorem numK_zero_run : runS 100 [kPar] [] [fun _ => numK 0] = some ([1], [kPar, numK 0]) ∧ put 100 [kPar, numK 0] (numK 0) = some (1, [kPar, numK 0]) ∧
    runS 100 [kPar, numK 0] [] [fun _ => ⟨8, 0, 0, []⟩, fun r => ⟨3, 1, r.getD 0 0, []⟩] = some ([2, 3], [kPar, numK 0, ⟨8, 0, 0, []⟩, ⟨3, 1, 2, []⟩]) := by
  have h1 : put 100 [kPar] (numK 0) = some (1, [kPar, numK 0]) := put_new (par_ne 0) (by decide)
  have h2 : put 100 [kPar, numK 0] (numK 0) = some (1, [kPar, numK 0]) := by
    rw [put_old (by simp)]
    have hp : ¬ kPar = numK 0 := fun h => par_ne 0 (by rw [← h]; simp)
    have hb : (kPar == numK 0) = false := by simpa using hp
    simp [List.idxOf_cons, hb]
  have hn : ∀ x y z c, x ≠ 1 → ¬ (⟨x, y, z, c⟩ : Key) = numK 0 := fun x y z c hx h => hx (congrArg Key.op h)
  have h3 : put 100 [kPar, numK 0] ⟨8, 0, 0, []⟩ = some (2, [kPar, numK 0, ⟨8, 0, 0, []⟩]) := put_new (by
    simp only [List.mem_cons, List.not_mem_nil, or_false, not_or]
    exact ⟨by decide, hn _ _ _ _ (by decide)⟩) (by simp)
  have h4 : put 100 [kPar, numK 0, ⟨8, 0, 0, []⟩] ⟨3, 1, 2, []⟩ = some (3, [kPar, numK 0, ⟨8, 0, 0, []⟩, ⟨3, 1, 2, []⟩]) := put_new (by
    simp only [List.mem_cons, List.not_mem_nil, or_false, not_or]
    exact ⟨by decide, hn _ _ _ _ (by decide), by decide⟩) (by simp)
  refine ⟨?_, h2, ?_⟩
  · simp only [runS, h1]
    rfl
  · simp only [runS, h3]
    show (match put 100 [kPar, numK 0, ⟨8, 0, 0, []⟩] ⟨3, 1, 2, []⟩ with | none => none | some (i, L') => some ([2] ++ [i], L')) = _
    rw [h4]
    rfl
set_option maxRecDepth 100000 in
set_option maxHeartbeats 4000000 in
theorem head_ok (w : World) :
    Calls Try.prog 11 #[] w fun e w' => e = .returned (.bool true) ∧ Below w.heap.size w w' := by
  go_enter Try.func11, Try.ntmps11
  go_wp2_with fail
  refine (new_ok 100 _ (by decide) (by decide)).mono ?_
  rintro e W1 ⟨M, F0, rfl, hm, hb, hf⟩
  have HB := Lib.hid (And.intro hb (And.intro hf hb.size))
  have CP := Lib.hid (par_ok M F0 100 W1 hm (by decide))
  clear hm hb hf
  go_wp2_with fail
  refine CP.out.mono ?_
  rintro e W2 ⟨F1, rfl, hm, hs⟩
  have H2 := Lib.hid (And.intro hm hs)
  clear hm hs CP
  go_wp2_with fail
  refine (put_free M _ 100 1 _ 0 _ H2.out.1 (by decide)).mono ?_
  rintro e W3 (⟨rs, L3, F3, q1, rfl, q3, q4⟩ | ⟨q1, rfl, F6, L6, q3, q4⟩)
  rotate_left
  · exact absurd q1 (by rw [show runS 100 [⟨2, 0, 0, []⟩] [] [fun _ => numK 0] = _ from numK_zero_run.1]; simp)
  rw [show runS 100 [⟨2, 0, 0, []⟩] [] [fun _ => numK 0] = _ from numK_zero_run.1] at q1
  cases q1
  have H3 := Lib.hid (And.intro q3 (H2.out.2.trans q4))
  clear q3 q4 H2
  go_wp2_with fail
  refine (of_any 0 _ (by decide) (by decide)).mono ?_
  rintro e W4 ⟨⟨v, rfl, hv⟩, hb⟩
  have CN := Lib.hid (num_ok M _ 100 1 _ (decide ((0 : Int) < 0)) (0 : Int).natAbs _ v W4 (H3.out.1.below hb) (small_lim 0 (by decide) (by decide)) (zneg_small 0) hv)
  have HS4 := Lib.hid (H3.out.2.below hb)
  clear hb hv H3
  go_wp2_with fail
  refine CN.out.mono ?_
  rintro e W5 (⟨i, L5, F5, q1, rfl, q3, q4⟩ | ⟨q1, rfl, q3, q4⟩)
  rotate_left
  · change put 100 [kPar, numK 0] (numK 0) = none at q1
    rw [numK_zero_run.2.1] at q1
    cases q1
  change put 100 [kPar, numK 0] (numK 0) = _ at q1
  rw [numK_zero_run.2.1] at q1
  cases q1
  have H5 := Lib.hid (And.intro q3 (HS4.out.trans q4))
  clear q3 q4 HS4 CN
  go_wp2_with fail
  refine (put_lower M _ 100 1 _ 0 1 _ H5.out.1 (by decide) (by decide)).mono ?_
  rintro e W6 (⟨rs, L6, F6, q1, rfl, q3, q4⟩ | ⟨q1, rfl, F6, L6, q3, q4⟩)
  rotate_left
  · exact absurd q1 (by rw [numK_zero_run.2.2]; simp)
  rw [numK_zero_run.2.2] at q1
  cases q1
  have H6 := Lib.hid (And.intro q3 (H5.out.2.trans q4))
  clear q3 q4 H5
  go_wp2_with fail
  refine (put_u M _ 100 1 _ _ H6.out.1 (by decide)).mono ?_
  rintro e W7 ⟨rfl, hb7⟩
  have H7 := Lib.hid (And.intro (H6.out.1.below hb7) (H6.out.2.below hb7))
  clear hb7 H6
  go_wp2_with fail
  refine (put_two M _ 100 1 _ _ H7.out.1 (by decide)).mono ?_
  rintro e W8 ⟨rfl, hb8⟩
  have H8 := Lib.hid (H7.out.2.below hb8)
  clear hb8 H7
  go_wp2_with fail
  refine (put_nil _).mono ?_
  rintro e W9 ⟨rfl, hb9⟩
  have H9 := Lib.hid (HB.out.1.trans ((H8.out.below hb9).toBelow (B := w.heap.size) HB.out.2.2 HB.out.2.1))
  clear hb9 H8
  go_wp2_with fail
  go_ret
  exact ⟨rfl, H9.out⟩
set_option maxRecDepth 100000 in
set_option maxHeartbeats 8000000 in
theorem again_00 (low high : Int) (which : Nat) (w : World) (hr : -128 ≤ low ∧ low ≤ 127 ∧ -128 ≤ high ∧ high ≤ 127) (hw : which < 256) (h1 : which % 2 = 0) (h2 : which / 2 % 2 = 0) :
    Calls Try.prog 3 #[.int .i8 low, .int .i8 high, .int .u8 (which : Int)] w fun e w' => e = .returned (.bool true) ∧ Below w.heap.size w w' := by
  have hmf : ∀ (fn : Fn) (first cap : Array Value) (w : World), (Instr.makeFunc fn first cap).run Try.prog w = .ok (.func fn first cap) w := fun _ _ _ _ => rfl
  have w1 := IntWalk.i64_in low (by omega)
  have w2 := IntWalk.i64_in high (by omega)
  obtain ⟨qt, hq⟩ : ∃ q : Nat, which / 2 = q := ⟨_, rfl⟩
  have hqi : (which : Int) / 2 = (qt : Int) := by omega
  have hqt : Int.tdiv (which : Int) 2 = (qt : Int) := by rw [Int.tdiv_eq_ediv_of_nonneg (by omega)]; omega
  have hm1 : (which : Int) % 2 = 0 := by omega
  have hm1t : Int.tmod (which : Int) 2 = 0 := by rw [Int.tmod_eq_emod_of_nonneg (by omega)]; omega
  have hm2 : (qt : Int) % 2 = 0 := by omega
  have hm2t : Int.tmod (qt : Int) 2 = 0 := by rw [Int.tmod_eq_emod_of_nonneg (by omega)]; omega
  have hm3 : qt % 2 = 0 := by omega
  have h2' := h2
  rw [← hq] at hm3
  have HR := Lib.hid (And.intro hr (And.intro hw (And.intro h1 h2')))
  obtain ⟨W, hW⟩ : ∃ W, ((w.alloc (.cells #[.int .i8 low] 22)).alloc (.cells #[.int .i8 high] 22)).alloc (.cells #[.int .u8 (which : Int)] 5) = W := ⟨_, rfl⟩
  obtain ⟨X, hX⟩ : ∃ X, w.heap.size = X := ⟨_, rfl⟩
  have hbw : Below w.heap.size w W := by rw [← hW]; exact (((Below.refl w.heap.size w).alloc (Nat.le_refl _) _).alloc (by simp) _).alloc (by simp; omega) _
  have kl : Blk W X 22 [.int .i8 low] := by rw [← hW]; exact ((blk_new _ _ [_] _ hX).alloc _).alloc _
  have kh : Blk W (X + 1) 22 [.int .i8 high] := by rw [← hW]; exact (blk_new _ _ [_] _ (by simp [hX])).alloc _
  have kw : Blk W (X + 2) 5 [.int .u8 (which : Int)] := by rw [← hW]; exact blk_new _ _ [_] _ (by simp [hX])
  have HB0 := Lib.hid (Bx.mk (F := fun _ => False) kl kh kw (fun h => h) (fun h => h) (fun h => h))
  have HW := Lib.hid (And.intro hW hbw)
  clear hW hbw kl kh kw h2'
  go_enter Try.func3, Try.ntmps3
  go_wp2_with fail
  rw [HW.out.1]
  refine (new_ok 100 _ (by decide) (by decide)).mono ?_
  rintro e V1 ⟨M, F0, rfl, hm, hb, hf⟩
  have HB1 := Lib.hid (show Bx V1 F0 X (X + 1) (X + 2) low high which from by
    have h := HB0.out.below hb
    exact ⟨h.kl, h.kh, h.kw, fun hF => absurd HB0.out.kl.lt (by have := hf _ hF; omega), fun hF => absurd HB0.out.kh.lt (by have := hf _ hF; omega), fun hF => absurd HB0.out.kw.lt (by have := hf _ hF; omega)⟩)
  have HK := Lib.hid (And.intro (HW.out.2.trans (hb.mono HW.out.2.size)) (And.intro (fun k (hF : F0 k) => Nat.le_trans HW.out.2.size (hf k hF)) (Nat.le_trans HW.out.2.size hb.size)))
  have CM := Lib.hid (made_00 M F0 100 low high which X (X + 1) (X + 2) V1 hm (by decide) HR.out.1 HB1.out HR.out.2.1 HR.out.2.2.1 HR.out.2.2.2)
  clear hm hb hf
  go_wp2_with fail
  go_at_call 5
  refine CM.out.mono ?_
  rintro e V2 (⟨i, L1, k, L2, rs, L3, F2, q1, q2, q3, rfl, q4, q5⟩ | ⟨q1, -, -⟩)
  rotate_left
  · exact (noBad_room (by decide) (by intro i k; simp) q1).elim
  have HG := Lib.hid (show MGood 100 low high (fun _ _ => [fun _ => numK 0]) i L1 k L2 rs L3 from ⟨q1, q2, q3⟩)
  have hlong := HG.out.long (by decide)
  have HL := Lib.hid hlong
  have H2 := Lib.hid (And.intro q4 q5)
  have HB2 := Lib.hid (HB1.out.sp q5)
  have CL := Lib.hid (len_ok M F2 100 1 L3 V2 q4)
  obtain ⟨n, hn⟩ : ∃ n, L3.length = n := ⟨_, rfl⟩
  obtain ⟨n1, hn1⟩ : ∃ m, n = m + 1 := ⟨n - 1, by omega⟩
  rw [hn] at CL
  have HN := Lib.hid (And.intro hn hn1)
  have t1 : ¬ ((n : Int) < 2) := by omega
  have t1' : ¬ (n < 2) := by omega
  have t2 := IntWalk.i64_in (n1 : Int) (by omega)
  have t3 : (n : Int) - 1 = (n1 : Int) := by omega
  obtain ⟨yv, hyv⟩ : ∃ y, rs.getD 0 0 = y := ⟨_, rfl⟩
  have HYV := Lib.hid hyv
  clear q1 q2 q3 q4 q5 CM hlong hn hn1
  dsimp only
  rw [hyv]
  clear hyv
  obtain ⟨c1, c2, c3⟩ := HB2.out.cells
  go_wp2_with (go_at_call 10; refine CL.out.mono ?_; rintro e wl ⟨rfl, rfl⟩)
  refine (of_any low _ (by have := HR.out; omega) (by have := HR.out; omega)).mono ?_
  rintro e V3 ⟨⟨v, rfl, hv⟩, hb⟩
  have CN := Lib.hid (num_ok M F2 100 1 L3 (decide (low < 0)) low.natAbs _ v V3 (H2.out.1.below hb) (small_lim low (by have := HR.out; omega) (by have := HR.out; omega)) (zneg_small low) hv)
  have HB3 := Lib.hid (HB2.out.below hb)
  have HS3 := Lib.hid (H2.out.2.below hb)
  clear c1 c2 c3 hb hv HB2 CL
  go_wp2_with fail
  refine CN.out.mono ?_
  rintro e V4 (⟨i', L', F4, q1, rfl, q3, q4⟩ | ⟨q1, rfl, q3, q4⟩)
  rotate_left
  · change put 100 L3 (numK low) = none at q1
    rw [HG.out.again.1] at q1
    cases q1
  change put 100 L3 (numK low) = _ at q1
  rw [HG.out.again.1] at q1
  cases q1
  have HB4 := Lib.hid (HB3.out.sp q4)
  have H4 := Lib.hid (And.intro q3 (HS3.out.trans q4))
  clear q3 q4 CN HB3 HS3
  obtain ⟨c1, c2, c3⟩ := HB4.out.cells
  go_wp2_with fail
  refine (of_any high _ (by have := HR.out; omega) (by have := HR.out; omega)).mono ?_
  rintro e V5 ⟨⟨v, rfl, hv⟩, hb⟩
  have CN := Lib.hid (num_ok M F4 100 1 L3 (decide (high < 0)) high.natAbs _ v V5 (H4.out.1.below hb) (small_lim high (by have := HR.out; omega) (by have := HR.out; omega)) (zneg_small high) hv)
  have HB5 := Lib.hid (HB4.out.below hb)
  have HS5 := Lib.hid (H4.out.2.below hb)
  clear c1 c2 c3 hb hv HB4
  go_wp2_with fail
  refine CN.out.mono ?_
  rintro e V6 (⟨i', L', F6, q1, rfl, q3, q4⟩ | ⟨q1, rfl, q3, q4⟩)
  rotate_left
  · change put 100 L3 (numK high) = none at q1
    rw [HG.out.again.2.1] at q1
    cases q1
  change put 100 L3 (numK high) = _ at q1
  rw [HG.out.again.2.1] at q1
  cases q1
  have HB6 := Lib.hid (HB5.out.sp q4)
  have HP := Lib.hid (And.intro q3 (And.intro (show 0 < L3.length by have := HL.out; omega) (And.intro HL.out.2.2.1 HL.out.2.2.2)))
  have HS6 := Lib.hid (HS5.out.trans q4)
  clear q3 q4 CN HB5 HS5
  obtain ⟨c1, c2, c3⟩ := HB6.out.cells
  go_wp2_with fail
  refine (put_free M _ 100 1 _ 0 _ HP.out.1 HP.out.2.1).mono ?_
  rintro e V7 (⟨rs', L', F7, q1, rfl, q3, q4⟩ | ⟨q1, rfl, F7, L7, q3, q4⟩)
  rotate_left
  · exact absurd (q1.symm.trans HG.out.again.2.2) (by simp)
  have q1 := q1.symm.trans HG.out.again.2.2
  cases q1
  have HB7 := Lib.hid (HB6.out.sp q4)
  have HS7 := Lib.hid (HS6.out.trans q4)
  have CL := Lib.hid (len_ok M F7 100 1 L3 V7 q3)
  rw [HN.out.1] at CL
  clear q3 q4 HB6 HS6 c1 c2 c3
  dsimp only
  rw [HYV.out]
  go_wp2_with (go_at_call 10; refine CL.out.mono ?_; rintro e wl ⟨rfl, rfl⟩)
  refine (new_ok n _ (by have := HL.out; have := HN.out; omega) (by have := HL.out; have := HN.out; omega)).mono ?_
  rintro e V8 ⟨M2, G0, rfl, hm, hb, hf⟩
  have HB8 := Lib.hid (HB7.out.below hb)
  have H8 := Lib.hid (And.intro hm (And.intro hf (HS7.out.below hb)))
  have HX7 := Lib.hid (And.intro HB7.out.kl.lt (And.intro HB7.out.kh.lt (And.intro HB7.out.kw.lt hb.size)))
  have HS7s := Lib.hid HS7.out.size
  clear hm hb hf HB7 HS7
  go_wp2_with fail
  refine (new_ok n1 _ (by have := HL.out; have := HN.out; omega) (by have := HL.out; have := HN.out; omega)).mono ?_
  rintro e V9 ⟨M3, G1, rfl, hm, hb, hf⟩
  have HB9 := Lib.hid (show Bx V9 G0 X (X + 1) (X + 2) low high which from by
    have h := HB8.out.below hb
    exact ⟨h.kl, h.kh, h.kw, fun hF => absurd HX7.out.1 (by have := H8.out.2.1 _ hF; omega), fun hF => absurd HX7.out.2.1 (by have := H8.out.2.1 _ hF; omega), fun hF => absurd HX7.out.2.2.1 (by have := H8.out.2.1 _ hF; omega)⟩)
  have HS9 := Lib.hid (H8.out.2.2.below hb)
  have H9 := Lib.hid (And.intro (H8.out.1.below hb) (And.intro hm (And.intro (show ∀ k, G1 k → ¬ G0 k from fun k hG hG0 => absurd (H8.out.1.has.2 k hG0) (by have := hf k hG; omega)) (And.intro hf hb.size))))
  have CM := Lib.hid (made_00 M2 G0 n low high which X (X + 1) (X + 2) V9 H9.out.1 (by have := HN.out; omega) HR.out.1 HB9.out HR.out.2.1 HR.out.2.2.1 HR.out.2.2.2)
  clear hm hb hf HB8
  go_wp2_with fail
  go_at_call 5
  refine CM.out.mono ?_
  rintro e V10 (⟨i', L1', k', L2', rs', L3', F10, q1, q2, q3, rfl, q4, q5⟩ | ⟨q1, -, -⟩)
  rotate_left
  · exact ((HG.out.just (B' := n) (by rw [HN.out.1]; exact Nat.le_refl _)).noBad q1).elim
  obtain ⟨rfl, rfl⟩ := (HG.out.just (B' := n) (by rw [HN.out.1]; exact Nat.le_refl _)).uniq (show MGood n low high (fun _ _ => [fun _ => numK 0]) i' L1' k' L2' rs' L3' from ⟨q1, q2, q3⟩)
  have HB10 := Lib.hid (show Bx V10 G1 X (X + 1) (X + 2) low high which from by
    have h := HB9.out.sp q5
    exact ⟨h.kl, h.kh, h.kw, fun hF => absurd HX7.out.1 (by have := H9.out.2.2.2.1 _ hF; have := HX7.out.2.2.2; omega), fun hF => absurd HX7.out.2.1 (by have := H9.out.2.2.2.1 _ hF; have := HX7.out.2.2.2; omega), fun hF => absurd HX7.out.2.2.1 (by have := H9.out.2.2.2.1 _ hF; have := HX7.out.2.2.2; omega)⟩)
  have CM := Lib.hid (made_00 M3 G1 n1 low high which X (X + 1) (X + 2) V10 (H9.out.2.1.other q5 H9.out.2.2.1) (by have := HL.out; have := HN.out; omega) HR.out.1 HB10.out HR.out.2.1 HR.out.2.2.1 HR.out.2.2.2)
  have HS10 := Lib.hid q5
  clear q1 q2 q3 q4 q5 HB9
  dsimp only
  rw [HYV.out]
  go_wp2_with fail
  go_at_call 5
  refine CM.out.mono ?_
  rintro e V11 (⟨i', L1', k', L2', rs', L3', F11, q1, q2, q3, rfl, q4, q5⟩ | ⟨-, rfl, F11, q5⟩)
  · exact (HG.out.less (by decide) (by have := HL.out; have := HN.out; omega) (by have := HN.out; omega) (show MGood n1 low high (fun _ _ => [fun _ => numK 0]) i' L1' k' L2' rs' L3' from ⟨q1, q2, q3⟩)).elim
  have b9 : Below w.heap.size w V9 := HK.out.1.trans (HS9.out.toBelow (B := w.heap.size) HK.out.2.2 HK.out.2.1)
  have w7 : w.heap.size ≤ wl.heap.size := Nat.le_trans HK.out.2.2 HS7s.out
  have b10 : Below w.heap.size w V10 := b9.trans (HS10.out.toBelow (B := w.heap.size) b9.size (fun k hk => Nat.le_trans w7 (H8.out.2.1 k hk)))
  have b11 : Below w.heap.size w V11 := b10.trans (q5.toBelow (B := w.heap.size) b10.size (fun k hk => Nat.le_trans (Nat.le_trans w7 HX7.out.2.2.2) (H9.out.2.2.2.1 k hk)))
  have HB11 := Lib.hid b11
  have CH := Lib.hid (head_ok V11)
  clear b9 w7 b10 b11 q5
  go_wp2_with (go_at_call 11; refine CH.out.mono ?_; rintro e wh ⟨rfl, hbh⟩; have HBH := Lib.hid hbh; clear hbh)
  go_ret
  exact ⟨rfl, HB11.out.trans (HBH.out.mono HB11.out.size)⟩
set_option maxRecDepth 100000 in
set_option maxHeartbeats 8000000 in
theorem again_01 (low high : Int) (which : Nat) (w : World) (hr : -128 ≤ low ∧ low ≤ 127 ∧ -128 ≤ high ∧ high ≤ 127) (hw : which < 256) (h1 : which % 2 = 0) (h2 : which / 2 % 2 = 1) :
    Calls Try.prog 3 #[.int .i8 low, .int .i8 high, .int .u8 (which : Int)] w fun e w' => e = .returned (.bool true) ∧ Below w.heap.size w w' := by
  have hmf : ∀ (fn : Fn) (first cap : Array Value) (w : World), (Instr.makeFunc fn first cap).run Try.prog w = .ok (.func fn first cap) w := fun _ _ _ _ => rfl
  have w1 := IntWalk.i64_in low (by omega)
  have w2 := IntWalk.i64_in high (by omega)
  obtain ⟨qt, hq⟩ : ∃ q : Nat, which / 2 = q := ⟨_, rfl⟩
  have hqi : (which : Int) / 2 = (qt : Int) := by omega
  have hqt : Int.tdiv (which : Int) 2 = (qt : Int) := by rw [Int.tdiv_eq_ediv_of_nonneg (by omega)]; omega
  have hm1 : (which : Int) % 2 = 0 := by omega
  have hm1t : Int.tmod (which : Int) 2 = 0 := by rw [Int.tmod_eq_emod_of_nonneg (by omega)]; omega
  have hm2 : (qt : Int) % 2 = 1 := by omega
  have hm2t : Int.tmod (qt : Int) 2 = 1 := by rw [Int.tmod_eq_emod_of_nonneg (by omega)]; omega
  have hm3 : qt % 2 = 1 := by omega
  have h2' := h2
  rw [← hq] at hm3
  have HR := Lib.hid (And.intro hr (And.intro hw (And.intro h1 h2')))
  obtain ⟨W, hW⟩ : ∃ W, ((w.alloc (.cells #[.int .i8 low] 22)).alloc (.cells #[.int .i8 high] 22)).alloc (.cells #[.int .u8 (which : Int)] 5) = W := ⟨_, rfl⟩
  obtain ⟨X, hX⟩ : ∃ X, w.heap.size = X := ⟨_, rfl⟩
  have hbw : Below w.heap.size w W := by rw [← hW]; exact (((Below.refl w.heap.size w).alloc (Nat.le_refl _) _).alloc (by simp) _).alloc (by simp; omega) _
  have kl : Blk W X 22 [.int .i8 low] := by rw [← hW]; exact ((blk_new _ _ [_] _ hX).alloc _).alloc _
  have kh : Blk W (X + 1) 22 [.int .i8 high] := by rw [← hW]; exact (blk_new _ _ [_] _ (by simp [hX])).alloc _
  have kw : Blk W (X + 2) 5 [.int .u8 (which : Int)] := by rw [← hW]; exact blk_new _ _ [_] _ (by simp [hX])
  have HB0 := Lib.hid (Bx.mk (F := fun _ => False) kl kh kw (fun h => h) (fun h => h) (fun h => h))
  have HW := Lib.hid (And.intro hW hbw)
  clear hW hbw kl kh kw h2'
  go_enter Try.func3, Try.ntmps3
  go_wp2_with fail
  rw [HW.out.1]
  refine (new_ok 100 _ (by decide) (by decide)).mono ?_
  rintro e V1 ⟨M, F0, rfl, hm, hb, hf⟩
  have HB1 := Lib.hid (show Bx V1 F0 X (X + 1) (X + 2) low high which from by
    have h := HB0.out.below hb
    exact ⟨h.kl, h.kh, h.kw, fun hF => absurd HB0.out.kl.lt (by have := hf _ hF; omega), fun hF => absurd HB0.out.kh.lt (by have := hf _ hF; omega), fun hF => absurd HB0.out.kw.lt (by have := hf _ hF; omega)⟩)
  have HK := Lib.hid (And.intro (HW.out.2.trans (hb.mono HW.out.2.size)) (And.intro (fun k (hF : F0 k) => Nat.le_trans HW.out.2.size (hf k hF)) (Nat.le_trans HW.out.2.size hb.size)))
  have CM := Lib.hid (made_01 M F0 100 low high which X (X + 1) (X + 2) V1 hm (by decide) HR.out.1 HB1.out HR.out.2.1 HR.out.2.2.1 HR.out.2.2.2)
  clear hm hb hf
  go_wp2_with fail
  go_at_call 5
  refine CM.out.mono ?_
  rintro e V2 (⟨i, L1, k, L2, rs, L3, F2, q1, q2, q3, rfl, q4, q5⟩ | ⟨q1, -, -⟩)
  rotate_left
  · exact (noBad_room (by decide) (by intro i k; simp) q1).elim
  have HG := Lib.hid (show MGood 100 low high (fun _ k => [fun _ => ⟨8, 0, 0, []⟩, fun r => ⟨4, k, r.getD 0 0, []⟩]) i L1 k L2 rs L3 from ⟨q1, q2, q3⟩)
  have hlong := HG.out.long (by decide)
  have HL := Lib.hid hlong
  have H2 := Lib.hid (And.intro q4 q5)
  have HB2 := Lib.hid (HB1.out.sp q5)
  have CL := Lib.hid (len_ok M F2 100 1 L3 V2 q4)
  obtain ⟨n, hn⟩ : ∃ n, L3.length = n := ⟨_, rfl⟩
  obtain ⟨n1, hn1⟩ : ∃ m, n = m + 1 := ⟨n - 1, by omega⟩
  rw [hn] at CL
  have HN := Lib.hid (And.intro hn hn1)
  have t1 : ¬ ((n : Int) < 2) := by omega
  have t1' : ¬ (n < 2) := by omega
  have t2 := IntWalk.i64_in (n1 : Int) (by omega)
  have t3 : (n : Int) - 1 = (n1 : Int) := by omega
  obtain ⟨xv, hxv⟩ : ∃ x, rs.getD 1 0 = x := ⟨_, rfl⟩
  have HXV := Lib.hid hxv
  clear q1 q2 q3 q4 q5 CM hlong hn hn1
  dsimp only
  rw [hxv]
  clear hxv
  obtain ⟨c1, c2, c3⟩ := HB2.out.cells
  go_wp2_with (go_at_call 10; refine CL.out.mono ?_; rintro e wl ⟨rfl, rfl⟩)
  refine (of_any low _ (by have := HR.out; omega) (by have := HR.out; omega)).mono ?_
  rintro e V3 ⟨⟨v, rfl, hv⟩, hb⟩
  have CN := Lib.hid (num_ok M F2 100 1 L3 (decide (low < 0)) low.natAbs _ v V3 (H2.out.1.below hb) (small_lim low (by have := HR.out; omega) (by have := HR.out; omega)) (zneg_small low) hv)
  have HB3 := Lib.hid (HB2.out.below hb)
  have HS3 := Lib.hid (H2.out.2.below hb)
  clear c1 c2 c3 hb hv HB2 CL
  go_wp2_with fail
  refine CN.out.mono ?_
  rintro e V4 (⟨i', L', F4, q1, rfl, q3, q4⟩ | ⟨q1, rfl, q3, q4⟩)
  rotate_left
  · change put 100 L3 (numK low) = none at q1
    rw [HG.out.again.1] at q1
    cases q1
  change put 100 L3 (numK low) = _ at q1
  rw [HG.out.again.1] at q1
  cases q1
  have HB4 := Lib.hid (HB3.out.sp q4)
  have H4 := Lib.hid (And.intro q3 (HS3.out.trans q4))
  clear q3 q4 CN HB3 HS3
  obtain ⟨c1, c2, c3⟩ := HB4.out.cells
  go_wp2_with fail
  refine (of_any high _ (by have := HR.out; omega) (by have := HR.out; omega)).mono ?_
  rintro e V5 ⟨⟨v, rfl, hv⟩, hb⟩
  have CN := Lib.hid (num_ok M F4 100 1 L3 (decide (high < 0)) high.natAbs _ v V5 (H4.out.1.below hb) (small_lim high (by have := HR.out; omega) (by have := HR.out; omega)) (zneg_small high) hv)
  have HB5 := Lib.hid (HB4.out.below hb)
  have HS5 := Lib.hid (H4.out.2.below hb)
  clear c1 c2 c3 hb hv HB4
  go_wp2_with fail
  refine CN.out.mono ?_
  rintro e V6 (⟨i', L', F6, q1, rfl, q3, q4⟩ | ⟨q1, rfl, q3, q4⟩)
  rotate_left
  · change put 100 L3 (numK high) = none at q1
    rw [HG.out.again.2.1] at q1
    cases q1
  change put 100 L3 (numK high) = _ at q1
  rw [HG.out.again.2.1] at q1
  cases q1
  have HB6 := Lib.hid (HB5.out.sp q4)
  have HP := Lib.hid (And.intro q3 (And.intro (show 0 < L3.length by have := HL.out; omega) (And.intro HL.out.2.2.1 HL.out.2.2.2)))
  have HS6 := Lib.hid (HS5.out.trans q4)
  clear q3 q4 CN HB5 HS5
  obtain ⟨c1, c2, c3⟩ := HB6.out.cells
  go_wp2_with fail
  refine (put_upper M _ 100 1 _ 0 k _ HP.out.1 HP.out.2.1 HP.out.2.2.2).mono ?_
  rintro e V7 (⟨rs', L', F7, q1, rfl, q3, q4⟩ | ⟨q1, rfl, F7, L7, q3, q4⟩)
  rotate_left
  · exact absurd (q1.symm.trans HG.out.again.2.2) (by simp)
  have q1 := q1.symm.trans HG.out.again.2.2
  cases q1
  have HB7 := Lib.hid (HB6.out.sp q4)
  have HS7 := Lib.hid (HS6.out.trans q4)
  have CL := Lib.hid (len_ok M F7 100 1 L3 V7 q3)
  rw [HN.out.1] at CL
  clear q3 q4 HB6 HS6 c1 c2 c3
  dsimp only
  rw [HXV.out]
  go_wp2_with (go_at_call 10; refine CL.out.mono ?_; rintro e wl ⟨rfl, rfl⟩)
  refine (new_ok n _ (by have := HL.out; have := HN.out; omega) (by have := HL.out; have := HN.out; omega)).mono ?_
  rintro e V8 ⟨M2, G0, rfl, hm, hb, hf⟩
  have HB8 := Lib.hid (HB7.out.below hb)
  have H8 := Lib.hid (And.intro hm (And.intro hf (HS7.out.below hb)))
  have HX7 := Lib.hid (And.intro HB7.out.kl.lt (And.intro HB7.out.kh.lt (And.intro HB7.out.kw.lt hb.size)))
  have HS7s := Lib.hid HS7.out.size
  clear hm hb hf HB7 HS7
  go_wp2_with fail
  refine (new_ok n1 _ (by have := HL.out; have := HN.out; omega) (by have := HL.out; have := HN.out; omega)).mono ?_
  rintro e V9 ⟨M3, G1, rfl, hm, hb, hf⟩
  have HB9 := Lib.hid (show Bx V9 G0 X (X + 1) (X + 2) low high which from by
    have h := HB8.out.below hb
    exact ⟨h.kl, h.kh, h.kw, fun hF => absurd HX7.out.1 (by have := H8.out.2.1 _ hF; omega), fun hF => absurd HX7.out.2.1 (by have := H8.out.2.1 _ hF; omega), fun hF => absurd HX7.out.2.2.1 (by have := H8.out.2.1 _ hF; omega)⟩)
  have HS9 := Lib.hid (H8.out.2.2.below hb)
  have H9 := Lib.hid (And.intro (H8.out.1.below hb) (And.intro hm (And.intro (show ∀ k, G1 k → ¬ G0 k from fun k hG hG0 => absurd (H8.out.1.has.2 k hG0) (by have := hf k hG; omega)) (And.intro hf hb.size))))
  have CM := Lib.hid (made_01 M2 G0 n low high which X (X + 1) (X + 2) V9 H9.out.1 (by have := HN.out; omega) HR.out.1 HB9.out HR.out.2.1 HR.out.2.2.1 HR.out.2.2.2)
  clear hm hb hf HB8
  go_wp2_with fail
  go_at_call 5
  refine CM.out.mono ?_
  rintro e V10 (⟨i', L1', k', L2', rs', L3', F10, q1, q2, q3, rfl, q4, q5⟩ | ⟨q1, -, -⟩)
  rotate_left
  · exact ((HG.out.just (B' := n) (by rw [HN.out.1]; exact Nat.le_refl _)).noBad q1).elim
  obtain ⟨rfl, rfl⟩ := (HG.out.just (B' := n) (by rw [HN.out.1]; exact Nat.le_refl _)).uniq (show MGood n low high (fun _ k => [fun _ => ⟨8, 0, 0, []⟩, fun r => ⟨4, k, r.getD 0 0, []⟩]) i' L1' k' L2' rs' L3' from ⟨q1, q2, q3⟩)
  have HB10 := Lib.hid (show Bx V10 G1 X (X + 1) (X + 2) low high which from by
    have h := HB9.out.sp q5
    exact ⟨h.kl, h.kh, h.kw, fun hF => absurd HX7.out.1 (by have := H9.out.2.2.2.1 _ hF; have := HX7.out.2.2.2; omega), fun hF => absurd HX7.out.2.1 (by have := H9.out.2.2.2.1 _ hF; have := HX7.out.2.2.2; omega), fun hF => absurd HX7.out.2.2.1 (by have := H9.out.2.2.2.1 _ hF; have := HX7.out.2.2.2; omega)⟩)
  have CM := Lib.hid (made_01 M3 G1 n1 low high which X (X + 1) (X + 2) V10 (H9.out.2.1.other q5 H9.out.2.2.1) (by have := HL.out; have := HN.out; omega) HR.out.1 HB10.out HR.out.2.1 HR.out.2.2.1 HR.out.2.2.2)
  have HS10 := Lib.hid q5
  clear q1 q2 q3 q4 q5 HB9
  dsimp only
  rw [HXV.out]
  go_wp2_with fail
  go_at_call 5
  refine CM.out.mono ?_
  rintro e V11 (⟨i', L1', k', L2', rs', L3', F11, q1, q2, q3, rfl, q4, q5⟩ | ⟨-, rfl, F11, q5⟩)
  · exact (HG.out.less (by decide) (by have := HL.out; have := HN.out; omega) (by have := HN.out; omega) (show MGood n1 low high (fun _ k => [fun _ => ⟨8, 0, 0, []⟩, fun r => ⟨4, k, r.getD 0 0, []⟩]) i' L1' k' L2' rs' L3' from ⟨q1, q2, q3⟩)).elim
  have b9 : Below w.heap.size w V9 := HK.out.1.trans (HS9.out.toBelow (B := w.heap.size) HK.out.2.2 HK.out.2.1)
  have w7 : w.heap.size ≤ wl.heap.size := Nat.le_trans HK.out.2.2 HS7s.out
  have b10 : Below w.heap.size w V10 := b9.trans (HS10.out.toBelow (B := w.heap.size) b9.size (fun k hk => Nat.le_trans w7 (H8.out.2.1 k hk)))
  have b11 : Below w.heap.size w V11 := b10.trans (q5.toBelow (B := w.heap.size) b10.size (fun k hk => Nat.le_trans (Nat.le_trans w7 HX7.out.2.2.2) (H9.out.2.2.2.1 k hk)))
  have HB11 := Lib.hid b11
  have CH := Lib.hid (head_ok V11)
  clear b9 w7 b10 b11 q5
  go_wp2_with (go_at_call 11; refine CH.out.mono ?_; rintro e wh ⟨rfl, hbh⟩; have HBH := Lib.hid hbh; clear hbh)
  go_ret
  exact ⟨rfl, HB11.out.trans (HBH.out.mono HB11.out.size)⟩
set_option maxRecDepth 100000 in
set_option maxHeartbeats 8000000 in
theorem again_10 (low high : Int) (which : Nat) (w : World) (hr : -128 ≤ low ∧ low ≤ 127 ∧ -128 ≤ high ∧ high ≤ 127) (hw : which < 256) (h1 : which % 2 = 1) (h2 : which / 2 % 2 = 0) :
    Calls Try.prog 3 #[.int .i8 low, .int .i8 high, .int .u8 (which : Int)] w fun e w' => e = .returned (.bool true) ∧ Below w.heap.size w w' := by
  have hmf : ∀ (fn : Fn) (first cap : Array Value) (w : World), (Instr.makeFunc fn first cap).run Try.prog w = .ok (.func fn first cap) w := fun _ _ _ _ => rfl
  have w1 := IntWalk.i64_in low (by omega)
  have w2 := IntWalk.i64_in high (by omega)
  obtain ⟨qt, hq⟩ : ∃ q : Nat, which / 2 = q := ⟨_, rfl⟩
  have hqi : (which : Int) / 2 = (qt : Int) := by omega
  have hqt : Int.tdiv (which : Int) 2 = (qt : Int) := by rw [Int.tdiv_eq_ediv_of_nonneg (by omega)]; omega
  have hm1 : (which : Int) % 2 = 1 := by omega
  have hm1t : Int.tmod (which : Int) 2 = 1 := by rw [Int.tmod_eq_emod_of_nonneg (by omega)]; omega
  have hm2 : (qt : Int) % 2 = 0 := by omega
  have hm2t : Int.tmod (qt : Int) 2 = 0 := by rw [Int.tmod_eq_emod_of_nonneg (by omega)]; omega
  have hm3 : qt % 2 = 0 := by omega
  have h2' := h2
  rw [← hq] at hm3
  have HR := Lib.hid (And.intro hr (And.intro hw (And.intro h1 h2')))
  obtain ⟨W, hW⟩ : ∃ W, ((w.alloc (.cells #[.int .i8 low] 22)).alloc (.cells #[.int .i8 high] 22)).alloc (.cells #[.int .u8 (which : Int)] 5) = W := ⟨_, rfl⟩
  obtain ⟨X, hX⟩ : ∃ X, w.heap.size = X := ⟨_, rfl⟩
  have hbw : Below w.heap.size w W := by rw [← hW]; exact (((Below.refl w.heap.size w).alloc (Nat.le_refl _) _).alloc (by simp) _).alloc (by simp; omega) _
  have kl : Blk W X 22 [.int .i8 low] := by rw [← hW]; exact ((blk_new _ _ [_] _ hX).alloc _).alloc _
  have kh : Blk W (X + 1) 22 [.int .i8 high] := by rw [← hW]; exact (blk_new _ _ [_] _ (by simp [hX])).alloc _
  have kw : Blk W (X + 2) 5 [.int .u8 (which : Int)] := by rw [← hW]; exact blk_new _ _ [_] _ (by simp [hX])
  have HB0 := Lib.hid (Bx.mk (F := fun _ => False) kl kh kw (fun h => h) (fun h => h) (fun h => h))
  have HW := Lib.hid (And.intro hW hbw)
  clear hW hbw kl kh kw h2'
  go_enter Try.func3, Try.ntmps3
  go_wp2_with fail
  rw [HW.out.1]
  refine (new_ok 100 _ (by decide) (by decide)).mono ?_
  rintro e V1 ⟨M, F0, rfl, hm, hb, hf⟩
  have HB1 := Lib.hid (show Bx V1 F0 X (X + 1) (X + 2) low high which from by
    have h := HB0.out.below hb
    exact ⟨h.kl, h.kh, h.kw, fun hF => absurd HB0.out.kl.lt (by have := hf _ hF; omega), fun hF => absurd HB0.out.kh.lt (by have := hf _ hF; omega), fun hF => absurd HB0.out.kw.lt (by have := hf _ hF; omega)⟩)
  have HK := Lib.hid (And.intro (HW.out.2.trans (hb.mono HW.out.2.size)) (And.intro (fun k (hF : F0 k) => Nat.le_trans HW.out.2.size (hf k hF)) (Nat.le_trans HW.out.2.size hb.size)))
  have CM := Lib.hid (made_10 M F0 100 low high which X (X + 1) (X + 2) V1 hm (by decide) HR.out.1 HB1.out HR.out.2.1 HR.out.2.2.1 HR.out.2.2.2)
  clear hm hb hf
  go_wp2_with fail
  go_at_call 5
  refine CM.out.mono ?_
  rintro e V2 (⟨i, L1, k, L2, rs, L3, F2, q1, q2, q3, rfl, q4, q5⟩ | ⟨q1, -, -⟩)
  rotate_left
  · exact (noBad_room (by decide) (by intro i k; simp) q1).elim
  have HG := Lib.hid (show MGood 100 low high (fun i _ => [fun _ => ⟨8, 0, 0, []⟩, fun r => ⟨3, i, r.getD 0 0, []⟩]) i L1 k L2 rs L3 from ⟨q1, q2, q3⟩)
  have hlong := HG.out.long (by decide)
  have HL := Lib.hid hlong
  have H2 := Lib.hid (And.intro q4 q5)
  have HB2 := Lib.hid (HB1.out.sp q5)
  have CL := Lib.hid (len_ok M F2 100 1 L3 V2 q4)
  obtain ⟨n, hn⟩ : ∃ n, L3.length = n := ⟨_, rfl⟩
  obtain ⟨n1, hn1⟩ : ∃ m, n = m + 1 := ⟨n - 1, by omega⟩
  rw [hn] at CL
  have HN := Lib.hid (And.intro hn hn1)
  have t1 : ¬ ((n : Int) < 2) := by omega
  have t1' : ¬ (n < 2) := by omega
  have t2 := IntWalk.i64_in (n1 : Int) (by omega)
  have t3 : (n : Int) - 1 = (n1 : Int) := by omega
  obtain ⟨xv, hxv⟩ : ∃ x, rs.getD 1 0 = x := ⟨_, rfl⟩
  have HXV := Lib.hid hxv
  clear q1 q2 q3 q4 q5 CM hlong hn hn1
  dsimp only
  rw [hxv]
  clear hxv
  obtain ⟨c1, c2, c3⟩ := HB2.out.cells
  go_wp2_with (go_at_call 10; refine CL.out.mono ?_; rintro e wl ⟨rfl, rfl⟩)
  refine (of_any low _ (by have := HR.out; omega) (by have := HR.out; omega)).mono ?_
  rintro e V3 ⟨⟨v, rfl, hv⟩, hb⟩
  have CN := Lib.hid (num_ok M F2 100 1 L3 (decide (low < 0)) low.natAbs _ v V3 (H2.out.1.below hb) (small_lim low (by have := HR.out; omega) (by have := HR.out; omega)) (zneg_small low) hv)
  have HB3 := Lib.hid (HB2.out.below hb)
  have HS3 := Lib.hid (H2.out.2.below hb)
  clear c1 c2 c3 hb hv HB2 CL
  go_wp2_with fail
  refine CN.out.mono ?_
  rintro e V4 (⟨i', L', F4, q1, rfl, q3, q4⟩ | ⟨q1, rfl, q3, q4⟩)
  rotate_left
  · change put 100 L3 (numK low) = none at q1
    rw [HG.out.again.1] at q1
    cases q1
  change put 100 L3 (numK low) = _ at q1
  rw [HG.out.again.1] at q1
  cases q1
  have HB4 := Lib.hid (HB3.out.sp q4)
  have H4 := Lib.hid (And.intro q3 (HS3.out.trans q4))
  clear q3 q4 CN HB3 HS3
  obtain ⟨c1, c2, c3⟩ := HB4.out.cells
  go_wp2_with fail
  refine (of_any high _ (by have := HR.out; omega) (by have := HR.out; omega)).mono ?_
  rintro e V5 ⟨⟨v, rfl, hv⟩, hb⟩
  have CN := Lib.hid (num_ok M F4 100 1 L3 (decide (high < 0)) high.natAbs _ v V5 (H4.out.1.below hb) (small_lim high (by have := HR.out; omega) (by have := HR.out; omega)) (zneg_small high) hv)
  have HB5 := Lib.hid (HB4.out.below hb)
  have HS5 := Lib.hid (H4.out.2.below hb)
  clear c1 c2 c3 hb hv HB4
  go_wp2_with fail
  refine CN.out.mono ?_
  rintro e V6 (⟨i', L', F6, q1, rfl, q3, q4⟩ | ⟨q1, rfl, q3, q4⟩)
  rotate_left
  · change put 100 L3 (numK high) = none at q1
    rw [HG.out.again.2.1] at q1
    cases q1
  change put 100 L3 (numK high) = _ at q1
  rw [HG.out.again.2.1] at q1
  cases q1
  have HB6 := Lib.hid (HB5.out.sp q4)
  have HP := Lib.hid (And.intro q3 (And.intro (show 0 < L3.length by have := HL.out; omega) (And.intro HL.out.2.2.1 HL.out.2.2.2)))
  have HS6 := Lib.hid (HS5.out.trans q4)
  clear q3 q4 CN HB5 HS5
  obtain ⟨c1, c2, c3⟩ := HB6.out.cells
  go_wp2_with fail
  refine (put_lower M _ 100 1 _ 0 i _ HP.out.1 HP.out.2.1 HP.out.2.2.1).mono ?_
  rintro e V7 (⟨rs', L', F7, q1, rfl, q3, q4⟩ | ⟨q1, rfl, F7, L7, q3, q4⟩)
  rotate_left
  · exact absurd (q1.symm.trans HG.out.again.2.2) (by simp)
  have q1 := q1.symm.trans HG.out.again.2.2
  cases q1
  have HB7 := Lib.hid (HB6.out.sp q4)
  have HS7 := Lib.hid (HS6.out.trans q4)
  have CL := Lib.hid (len_ok M F7 100 1 L3 V7 q3)
  rw [HN.out.1] at CL
  clear q3 q4 HB6 HS6 c1 c2 c3
  dsimp only
  rw [HXV.out]
  go_wp2_with (go_at_call 10; refine CL.out.mono ?_; rintro e wl ⟨rfl, rfl⟩)
  refine (new_ok n _ (by have := HL.out; have := HN.out; omega) (by have := HL.out; have := HN.out; omega)).mono ?_
  rintro e V8 ⟨M2, G0, rfl, hm, hb, hf⟩
  have HB8 := Lib.hid (HB7.out.below hb)
  have H8 := Lib.hid (And.intro hm (And.intro hf (HS7.out.below hb)))
  have HX7 := Lib.hid (And.intro HB7.out.kl.lt (And.intro HB7.out.kh.lt (And.intro HB7.out.kw.lt hb.size)))
  have HS7s := Lib.hid HS7.out.size
  clear hm hb hf HB7 HS7
  go_wp2_with fail
  refine (new_ok n1 _ (by have := HL.out; have := HN.out; omega) (by have := HL.out; have := HN.out; omega)).mono ?_
  rintro e V9 ⟨M3, G1, rfl, hm, hb, hf⟩
  have HB9 := Lib.hid (show Bx V9 G0 X (X + 1) (X + 2) low high which from by
    have h := HB8.out.below hb
    exact ⟨h.kl, h.kh, h.kw, fun hF => absurd HX7.out.1 (by have := H8.out.2.1 _ hF; omega), fun hF => absurd HX7.out.2.1 (by have := H8.out.2.1 _ hF; omega), fun hF => absurd HX7.out.2.2.1 (by have := H8.out.2.1 _ hF; omega)⟩)
  have HS9 := Lib.hid (H8.out.2.2.below hb)
  have H9 := Lib.hid (And.intro (H8.out.1.below hb) (And.intro hm (And.intro (show ∀ k, G1 k → ¬ G0 k from fun k hG hG0 => absurd (H8.out.1.has.2 k hG0) (by have := hf k hG; omega)) (And.intro hf hb.size))))
  have CM := Lib.hid (made_10 M2 G0 n low high which X (X + 1) (X + 2) V9 H9.out.1 (by have := HN.out; omega) HR.out.1 HB9.out HR.out.2.1 HR.out.2.2.1 HR.out.2.2.2)
  clear hm hb hf HB8
  go_wp2_with fail
  go_at_call 5
  refine CM.out.mono ?_
  rintro e V10 (⟨i', L1', k', L2', rs', L3', F10, q1, q2, q3, rfl, q4, q5⟩ | ⟨q1, -, -⟩)
  rotate_left
  · exact ((HG.out.just (B' := n) (by rw [HN.out.1]; exact Nat.le_refl _)).noBad q1).elim
  obtain ⟨rfl, rfl⟩ := (HG.out.just (B' := n) (by rw [HN.out.1]; exact Nat.le_refl _)).uniq (show MGood n low high (fun i _ => [fun _ => ⟨8, 0, 0, []⟩, fun r => ⟨3, i, r.getD 0 0, []⟩]) i' L1' k' L2' rs' L3' from ⟨q1, q2, q3⟩)
  have HB10 := Lib.hid (show Bx V10 G1 X (X + 1) (X + 2) low high which from by
    have h := HB9.out.sp q5
    exact ⟨h.kl, h.kh, h.kw, fun hF => absurd HX7.out.1 (by have := H9.out.2.2.2.1 _ hF; have := HX7.out.2.2.2; omega), fun hF => absurd HX7.out.2.1 (by have := H9.out.2.2.2.1 _ hF; have := HX7.out.2.2.2; omega), fun hF => absurd HX7.out.2.2.1 (by have := H9.out.2.2.2.1 _ hF; have := HX7.out.2.2.2; omega)⟩)
  have CM := Lib.hid (made_10 M3 G1 n1 low high which X (X + 1) (X + 2) V10 (H9.out.2.1.other q5 H9.out.2.2.1) (by have := HL.out; have := HN.out; omega) HR.out.1 HB10.out HR.out.2.1 HR.out.2.2.1 HR.out.2.2.2)
  have HS10 := Lib.hid q5
  clear q1 q2 q3 q4 q5 HB9
  dsimp only
  rw [HXV.out]
  go_wp2_with fail
  go_at_call 5
  refine CM.out.mono ?_
  rintro e V11 (⟨i', L1', k', L2', rs', L3', F11, q1, q2, q3, rfl, q4, q5⟩ | ⟨-, rfl, F11, q5⟩)
  · exact (HG.out.less (by decide) (by have := HL.out; have := HN.out; omega) (by have := HN.out; omega) (show MGood n1 low high (fun i _ => [fun _ => ⟨8, 0, 0, []⟩, fun r => ⟨3, i, r.getD 0 0, []⟩]) i' L1' k' L2' rs' L3' from ⟨q1, q2, q3⟩)).elim
  have b9 : Below w.heap.size w V9 := HK.out.1.trans (HS9.out.toBelow (B := w.heap.size) HK.out.2.2 HK.out.2.1)
  have w7 : w.heap.size ≤ wl.heap.size := Nat.le_trans HK.out.2.2 HS7s.out
  have b10 : Below w.heap.size w V10 := b9.trans (HS10.out.toBelow (B := w.heap.size) b9.size (fun k hk => Nat.le_trans w7 (H8.out.2.1 k hk)))
  have b11 : Below w.heap.size w V11 := b10.trans (q5.toBelow (B := w.heap.size) b10.size (fun k hk => Nat.le_trans (Nat.le_trans w7 HX7.out.2.2.2) (H9.out.2.2.2.1 k hk)))
  have HB11 := Lib.hid b11
  have CH := Lib.hid (head_ok V11)
  clear b9 w7 b10 b11 q5
  go_wp2_with (go_at_call 11; refine CH.out.mono ?_; rintro e wh ⟨rfl, hbh⟩; have HBH := Lib.hid hbh; clear hbh)
  go_ret
  exact ⟨rfl, HB11.out.trans (HBH.out.mono HB11.out.size)⟩
set_option maxRecDepth 100000 in
set_option maxHeartbeats 8000000 in
theorem again_11 (low high : Int) (which : Nat) (w : World) (hr : -128 ≤ low ∧ low ≤ 127 ∧ -128 ≤ high ∧ high ≤ 127) (hw : which < 256) (h1 : which % 2 = 1) (h2 : which / 2 % 2 = 1) :
    Calls Try.prog 3 #[.int .i8 low, .int .i8 high, .int .u8 (which : Int)] w fun e w' => e = .returned (.bool true) ∧ Below w.heap.size w w' := by
  have hmf : ∀ (fn : Fn) (first cap : Array Value) (w : World), (Instr.makeFunc fn first cap).run Try.prog w = .ok (.func fn first cap) w := fun _ _ _ _ => rfl
  have w1 := IntWalk.i64_in low (by omega)
  have w2 := IntWalk.i64_in high (by omega)
  obtain ⟨qt, hq⟩ : ∃ q : Nat, which / 2 = q := ⟨_, rfl⟩
  have hqi : (which : Int) / 2 = (qt : Int) := by omega
  have hqt : Int.tdiv (which : Int) 2 = (qt : Int) := by rw [Int.tdiv_eq_ediv_of_nonneg (by omega)]; omega
  have hm1 : (which : Int) % 2 = 1 := by omega
  have hm1t : Int.tmod (which : Int) 2 = 1 := by rw [Int.tmod_eq_emod_of_nonneg (by omega)]; omega
  have hm2 : (qt : Int) % 2 = 1 := by omega
  have hm2t : Int.tmod (qt : Int) 2 = 1 := by rw [Int.tmod_eq_emod_of_nonneg (by omega)]; omega
  have hm3 : qt % 2 = 1 := by omega
  have h2' := h2
  rw [← hq] at hm3
  have HR := Lib.hid (And.intro hr (And.intro hw (And.intro h1 h2')))
  obtain ⟨W, hW⟩ : ∃ W, ((w.alloc (.cells #[.int .i8 low] 22)).alloc (.cells #[.int .i8 high] 22)).alloc (.cells #[.int .u8 (which : Int)] 5) = W := ⟨_, rfl⟩
  obtain ⟨X, hX⟩ : ∃ X, w.heap.size = X := ⟨_, rfl⟩
  have hbw : Below w.heap.size w W := by rw [← hW]; exact (((Below.refl w.heap.size w).alloc (Nat.le_refl _) _).alloc (by simp) _).alloc (by simp; omega) _
  have kl : Blk W X 22 [.int .i8 low] := by rw [← hW]; exact ((blk_new _ _ [_] _ hX).alloc _).alloc _
  have kh : Blk W (X + 1) 22 [.int .i8 high] := by rw [← hW]; exact (blk_new _ _ [_] _ (by simp [hX])).alloc _
  have kw : Blk W (X + 2) 5 [.int .u8 (which : Int)] := by rw [← hW]; exact blk_new _ _ [_] _ (by simp [hX])
  have HB0 := Lib.hid (Bx.mk (F := fun _ => False) kl kh kw (fun h => h) (fun h => h) (fun h => h))
  have HW := Lib.hid (And.intro hW hbw)
  clear hW hbw kl kh kw h2'
  go_enter Try.func3, Try.ntmps3
  go_wp2_with fail
  rw [HW.out.1]
  refine (new_ok 100 _ (by decide) (by decide)).mono ?_
  rintro e V1 ⟨M, F0, rfl, hm, hb, hf⟩
  have HB1 := Lib.hid (show Bx V1 F0 X (X + 1) (X + 2) low high which from by
    have h := HB0.out.below hb
    exact ⟨h.kl, h.kh, h.kw, fun hF => absurd HB0.out.kl.lt (by have := hf _ hF; omega), fun hF => absurd HB0.out.kh.lt (by have := hf _ hF; omega), fun hF => absurd HB0.out.kw.lt (by have := hf _ hF; omega)⟩)
  have HK := Lib.hid (And.intro (HW.out.2.trans (hb.mono HW.out.2.size)) (And.intro (fun k (hF : F0 k) => Nat.le_trans HW.out.2.size (hf k hF)) (Nat.le_trans HW.out.2.size hb.size)))
  have CM := Lib.hid (made_11 M F0 100 low high which X (X + 1) (X + 2) V1 hm (by decide) HR.out.1 HB1.out HR.out.2.1 HR.out.2.2.1 HR.out.2.2.2)
  clear hm hb hf
  go_wp2_with fail
  go_at_call 5
  refine CM.out.mono ?_
  rintro e V2 (⟨i, L1, k, L2, rs, L3, F2, q1, q2, q3, rfl, q4, q5⟩ | ⟨q1, -, -⟩)
  rotate_left
  · exact (noBad_room (by decide) (by intro i k; simp [fsBoth]) q1).elim
  have HG := Lib.hid (show MGood 100 low high (fun i k => fsBoth 0 i k) i L1 k L2 rs L3 from ⟨q1, q2, q3⟩)
  have hlong := HG.out.long (by decide)
  have HL := Lib.hid hlong
  have H2 := Lib.hid (And.intro q4 q5)
  have HB2 := Lib.hid (HB1.out.sp q5)
  have CL := Lib.hid (len_ok M F2 100 1 L3 V2 q4)
  obtain ⟨n, hn⟩ : ∃ n, L3.length = n := ⟨_, rfl⟩
  obtain ⟨n1, hn1⟩ : ∃ m, n = m + 1 := ⟨n - 1, by omega⟩
  rw [hn] at CL
  have HN := Lib.hid (And.intro hn hn1)
  have t1 : ¬ ((n : Int) < 2) := by omega
  have t1' : ¬ (n < 2) := by omega
  have t2 := IntWalk.i64_in (n1 : Int) (by omega)
  have t3 : (n : Int) - 1 = (n1 : Int) := by omega
  obtain ⟨xv, hxv⟩ : ∃ x, rs.getD 7 0 = x := ⟨_, rfl⟩
  have HXV := Lib.hid hxv
  obtain ⟨yv, hyv⟩ : ∃ y, rs.getD 13 0 = y := ⟨_, rfl⟩
  have HYV := Lib.hid hyv
  clear q1 q2 q3 q4 q5 CM hlong hn hn1
  dsimp only
  rw [hxv]
  clear hxv
  rw [hyv]
  clear hyv
  obtain ⟨c1, c2, c3⟩ := HB2.out.cells
  go_wp2_with (go_at_call 10; refine CL.out.mono ?_; rintro e wl ⟨rfl, rfl⟩)
  refine (of_any low _ (by have := HR.out; omega) (by have := HR.out; omega)).mono ?_
  rintro e V3 ⟨⟨v, rfl, hv⟩, hb⟩
  have CN := Lib.hid (num_ok M F2 100 1 L3 (decide (low < 0)) low.natAbs _ v V3 (H2.out.1.below hb) (small_lim low (by have := HR.out; omega) (by have := HR.out; omega)) (zneg_small low) hv)
  have HB3 := Lib.hid (HB2.out.below hb)
  have HS3 := Lib.hid (H2.out.2.below hb)
  clear c1 c2 c3 hb hv HB2 CL
  go_wp2_with fail
  refine CN.out.mono ?_
  rintro e V4 (⟨i', L', F4, q1, rfl, q3, q4⟩ | ⟨q1, rfl, q3, q4⟩)
  rotate_left
  · change put 100 L3 (numK low) = none at q1
    rw [HG.out.again.1] at q1
    cases q1
  change put 100 L3 (numK low) = _ at q1
  rw [HG.out.again.1] at q1
  cases q1
  have HB4 := Lib.hid (HB3.out.sp q4)
  have H4 := Lib.hid (And.intro q3 (HS3.out.trans q4))
  clear q3 q4 CN HB3 HS3
  obtain ⟨c1, c2, c3⟩ := HB4.out.cells
  go_wp2_with fail
  refine (of_any high _ (by have := HR.out; omega) (by have := HR.out; omega)).mono ?_
  rintro e V5 ⟨⟨v, rfl, hv⟩, hb⟩
  have CN := Lib.hid (num_ok M F4 100 1 L3 (decide (high < 0)) high.natAbs _ v V5 (H4.out.1.below hb) (small_lim high (by have := HR.out; omega) (by have := HR.out; omega)) (zneg_small high) hv)
  have HB5 := Lib.hid (HB4.out.below hb)
  have HS5 := Lib.hid (H4.out.2.below hb)
  clear c1 c2 c3 hb hv HB4
  go_wp2_with fail
  refine CN.out.mono ?_
  rintro e V6 (⟨i', L', F6, q1, rfl, q3, q4⟩ | ⟨q1, rfl, q3, q4⟩)
  rotate_left
  · change put 100 L3 (numK high) = none at q1
    rw [HG.out.again.2.1] at q1
    cases q1
  change put 100 L3 (numK high) = _ at q1
  rw [HG.out.again.2.1] at q1
  cases q1
  have HB6 := Lib.hid (HB5.out.sp q4)
  have HP := Lib.hid (And.intro q3 (And.intro (show 0 < L3.length by have := HL.out; omega) (And.intro HL.out.2.2.1 HL.out.2.2.2)))
  have HS6 := Lib.hid (HS5.out.trans q4)
  clear q3 q4 CN HB5 HS5
  obtain ⟨c1, c2, c3⟩ := HB6.out.cells
  go_wp2_with fail
  refine (put_both M _ 100 1 _ 0 i k _ HP.out.1 HP.out.2.1 HP.out.2.2.1 HP.out.2.2.2).mono ?_
  rintro e V7 (⟨rs', L', F7, q1, rfl, q3, q4⟩ | ⟨q1, rfl, F7, L7, q3, q4⟩)
  rotate_left
  · exact absurd (q1.symm.trans HG.out.again.2.2) (by simp)
  have q1 := q1.symm.trans HG.out.again.2.2
  cases q1
  have HB7 := Lib.hid (HB6.out.sp q4)
  have HS7 := Lib.hid (HS6.out.trans q4)
  have CL := Lib.hid (len_ok M F7 100 1 L3 V7 q3)
  rw [HN.out.1] at CL
  clear q3 q4 HB6 HS6 c1 c2 c3
  dsimp only
  rw [HXV.out]
  rw [HYV.out]
  go_wp2_with (go_at_call 10; refine CL.out.mono ?_; rintro e wl ⟨rfl, rfl⟩)
  refine (new_ok n _ (by have := HL.out; have := HN.out; omega) (by have := HL.out; have := HN.out; omega)).mono ?_
  rintro e V8 ⟨M2, G0, rfl, hm, hb, hf⟩
  have HB8 := Lib.hid (HB7.out.below hb)
  have H8 := Lib.hid (And.intro hm (And.intro hf (HS7.out.below hb)))
  have HX7 := Lib.hid (And.intro HB7.out.kl.lt (And.intro HB7.out.kh.lt (And.intro HB7.out.kw.lt hb.size)))
  have HS7s := Lib.hid HS7.out.size
  clear hm hb hf HB7 HS7
  go_wp2_with fail
  refine (new_ok n1 _ (by have := HL.out; have := HN.out; omega) (by have := HL.out; have := HN.out; omega)).mono ?_
  rintro e V9 ⟨M3, G1, rfl, hm, hb, hf⟩
  have HB9 := Lib.hid (show Bx V9 G0 X (X + 1) (X + 2) low high which from by
    have h := HB8.out.below hb
    exact ⟨h.kl, h.kh, h.kw, fun hF => absurd HX7.out.1 (by have := H8.out.2.1 _ hF; omega), fun hF => absurd HX7.out.2.1 (by have := H8.out.2.1 _ hF; omega), fun hF => absurd HX7.out.2.2.1 (by have := H8.out.2.1 _ hF; omega)⟩)
  have HS9 := Lib.hid (H8.out.2.2.below hb)
  have H9 := Lib.hid (And.intro (H8.out.1.below hb) (And.intro hm (And.intro (show ∀ k, G1 k → ¬ G0 k from fun k hG hG0 => absurd (H8.out.1.has.2 k hG0) (by have := hf k hG; omega)) (And.intro hf hb.size))))
  have CM := Lib.hid (made_11 M2 G0 n low high which X (X + 1) (X + 2) V9 H9.out.1 (by have := HN.out; omega) HR.out.1 HB9.out HR.out.2.1 HR.out.2.2.1 HR.out.2.2.2)
  clear hm hb hf HB8
  go_wp2_with fail
  go_at_call 5
  refine CM.out.mono ?_
  rintro e V10 (⟨i', L1', k', L2', rs', L3', F10, q1, q2, q3, rfl, q4, q5⟩ | ⟨q1, -, -⟩)
  rotate_left
  · exact ((HG.out.just (B' := n) (by rw [HN.out.1]; exact Nat.le_refl _)).noBad q1).elim
  obtain ⟨rfl, rfl⟩ := (HG.out.just (B' := n) (by rw [HN.out.1]; exact Nat.le_refl _)).uniq (show MGood n low high (fun i k => fsBoth 0 i k) i' L1' k' L2' rs' L3' from ⟨q1, q2, q3⟩)
  have HB10 := Lib.hid (show Bx V10 G1 X (X + 1) (X + 2) low high which from by
    have h := HB9.out.sp q5
    exact ⟨h.kl, h.kh, h.kw, fun hF => absurd HX7.out.1 (by have := H9.out.2.2.2.1 _ hF; have := HX7.out.2.2.2; omega), fun hF => absurd HX7.out.2.1 (by have := H9.out.2.2.2.1 _ hF; have := HX7.out.2.2.2; omega), fun hF => absurd HX7.out.2.2.1 (by have := H9.out.2.2.2.1 _ hF; have := HX7.out.2.2.2; omega)⟩)
  have CM := Lib.hid (made_11 M3 G1 n1 low high which X (X + 1) (X + 2) V10 (H9.out.2.1.other q5 H9.out.2.2.1) (by have := HL.out; have := HN.out; omega) HR.out.1 HB10.out HR.out.2.1 HR.out.2.2.1 HR.out.2.2.2)
  have HS10 := Lib.hid q5
  clear q1 q2 q3 q4 q5 HB9
  dsimp only
  rw [HXV.out]
  rw [HYV.out]
  go_wp2_with fail
  go_at_call 5
  refine CM.out.mono ?_
  rintro e V11 (⟨i', L1', k', L2', rs', L3', F11, q1, q2, q3, rfl, q4, q5⟩ | ⟨-, rfl, F11, q5⟩)
  · exact (HG.out.less (by decide) (by have := HL.out; have := HN.out; omega) (by have := HN.out; omega) (show MGood n1 low high (fun i k => fsBoth 0 i k) i' L1' k' L2' rs' L3' from ⟨q1, q2, q3⟩)).elim
  have b9 : Below w.heap.size w V9 := HK.out.1.trans (HS9.out.toBelow (B := w.heap.size) HK.out.2.2 HK.out.2.1)
  have w7 : w.heap.size ≤ wl.heap.size := Nat.le_trans HK.out.2.2 HS7s.out
  have b10 : Below w.heap.size w V10 := b9.trans (HS10.out.toBelow (B := w.heap.size) b9.size (fun k hk => Nat.le_trans w7 (H8.out.2.1 k hk)))
  have b11 : Below w.heap.size w V11 := b10.trans (q5.toBelow (B := w.heap.size) b10.size (fun k hk => Nat.le_trans (Nat.le_trans w7 HX7.out.2.2.2) (H9.out.2.2.2.1 k hk)))
  have HB11 := Lib.hid b11
  have CH := Lib.hid (head_ok V11)
  clear b9 w7 b10 b11 q5
  go_wp2_with (go_at_call 11; refine CH.out.mono ?_; rintro e wh ⟨rfl, hbh⟩; have HBH := Lib.hid hbh; clear hbh)
  go_ret
  exact ⟨rfl, HB11.out.trans (HBH.out.mono HB11.out.size)⟩
theorem again (low high which : Int) (w : World) (l0 : -128 ≤ low) (l1 : low < 128) (g0 : -128 ≤ high) (g1 : high < 128) (h0 : 0 ≤ which) (h1 : which < 256) :
    Calls Try.prog 3 #[.int .i8 low, .int .i8 high, .int .u8 which] w fun e w' => e = .returned (.bool true) ∧ Below w.heap.size w w' := by
  obtain ⟨n, rfl⟩ := Int.eq_ofNat_of_zero_le h0
  have hr : -128 ≤ low ∧ low ≤ 127 ∧ -128 ≤ high ∧ high ≤ 127 := by omega
  have hw : n < 256 := by omega
  have h2 : n % 2 = 0 ∨ n % 2 = 1 := by omega
  have h3 : n / 2 % 2 = 0 ∨ n / 2 % 2 = 1 := by omega
  rcases h2 with h2 | h2 <;> rcases h3 with h3 | h3
  · exact again_00 low high n w hr hw h2 h3
  · exact again_01 low high n w hr hw h2 h3
  · exact again_10 low high n w hr hw h2 h3
  · exact again_11 low high n w hr hw h2 h3
end Go.Proofs.Ytljgiagdmnedpaa.Tape_
