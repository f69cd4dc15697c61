/-
chart.Put's errors; the closure of law 20's Again. (Printed by gen_made.py.)
-/
import Derived.Test.YtljgiagdmnedpaaChartPut2
namespace Go.Proofs.Ytljgiagdmnedpaa.Tape_
open Go.RowKit Nat_ Frac_

set_option maxRecDepth 100000 in
set_option maxHeartbeats 2000000 in
theorem put_u (M : Nat) (F : Nat → Prop) (B pars : Nat) (L : List Key) (w : World) (h : Mkr w M F B pars L) (hl : L.length ≤ 9) :
    Calls Try.prog 9 #[.pointer (some ⟨M, 0, none⟩), .int .i64 9, .int .i64 (-1), .int .i64 (-1)] w fun e w' => e = .returned (.tuple #[.int .i64 0, .int .i64 0, .int .i64 2]) ∧ Below w.heap.size w w' := by
  obtain ⟨W, hW⟩ : ∃ W, (((w.alloc (.cells #[.int .i64 0] 3)).alloc (.cells #[.int .i64 0] 3)).alloc (.cells #[.int .i64 0] 24)).alloc (.cells #[.pointer (some ⟨M, 0, none⟩)] 56) = W := ⟨_, rfl⟩
  obtain ⟨X, hX⟩ : ∃ X, w.heap.size = X := ⟨_, rfl⟩
  have hbw : Below w.heap.size w W := by rw [← hW]; exact ((((Below.refl w.heap.size w).alloc (Nat.le_refl _) _).alloc (by simp) _).alloc (by simp; omega) _).alloc (by simp; omega) _
  have kx : Blk W X 3 [.int .i64 0] := by rw [← hW]; exact (((blk_new _ _ [_] _ hX).alloc _).alloc _).alloc _
  have kj : Blk W (X + 1) 3 [.int .i64 0] := by rw [← hW]; exact ((blk_new _ _ [_] _ (by simp [hX])).alloc _).alloc _
  have ke : Blk W (X + 2) 24 [.int .i64 0] := by rw [← hW]; exact (blk_new _ _ [_] _ (by simp [hX])).alloc _
  have HW := Lib.hid (And.intro hW hbw)
  have HK := Lib.hid (And.intro kx (And.intro kj ke))
  have HX := Lib.hid (show w.heap.size ≤ X by omega)
  have HM := Lib.hid h
  have hl2 : (L.length : Int) ≤ 9 := by omega
  clear h
  clear hW hbw kx kj ke
  go_enter_defers Try.func9, Try.ntmps9
  go_wp2_with fail
  rw [HW.out.1]
  refine (one_bad M F B pars L W (HM.out.below HW.out.2)).mono ?_
  rintro e W1 ⟨rfl, hb1⟩
  have hB1 := HW.out.2.trans (hb1.mono HW.out.2.size)
  have bx := HK.out.1.below hb1 HK.out.1.lt
  have bj := HK.out.2.1.below hb1 HK.out.2.1.lt
  have be := HK.out.2.2.below hb1 HK.out.2.2.lt
  have x0 := bx.cell 0
  have j0 := (bj.far (p := ⟨X, 0, none⟩) (by show X + 1 ≠ X; omega) (.int .i64 0)).cell 0
  have e0 := ((be.far (p := ⟨X, 0, none⟩) (by show X + 2 ≠ X; omega) (.int .i64 0)).far (p := ⟨X + 1, 0, none⟩) (by show X + 2 ≠ X + 1; omega) (.int .i64 0)).cell 0
  have fx := bx.frozen 0 (by simp)
  have fj := (bj.far (p := ⟨X, 0, none⟩) (by show X + 1 ≠ X; omega) (.int .i64 0)).frozen 0 (by simp)
  have fe := ((be.far (p := ⟨X, 0, none⟩) (by show X + 2 ≠ X; omega) (.int .i64 0)).far (p := ⟨X + 1, 0, none⟩) (by show X + 2 ≠ X + 1; omega) (.int .i64 0)).frozen 0 (by simp)
  have h3 := (((bx.set_ 0 (.int .i64 0)).far (p := ⟨X + 1, 0, none⟩) (by show X ≠ X + 1; omega) (.int .i64 0)).far (p := ⟨X + 2, 0, none⟩) (by show X ≠ X + 2; omega) (.int .i64 2)).cell 0
  have h4 := (((bj.far (p := ⟨X, 0, none⟩) (by show X + 1 ≠ X; omega) (.int .i64 0)).set_ 0 (.int .i64 0)).far (p := ⟨X + 2, 0, none⟩) (by show X + 1 ≠ X + 2; omega) (.int .i64 2)).cell 0
  have h5 := (((be.far (p := ⟨X, 0, none⟩) (by show X + 2 ≠ X; omega) (.int .i64 0)).far (p := ⟨X + 1, 0, none⟩) (by show X + 2 ≠ X + 1; omega) (.int .i64 0)).set_ 0 (.int .i64 2)).cell 0
  simp only [List.set_cons_zero, List.getElem?_cons_zero] at x0 j0 e0 h3 h4 h5
  have HEND := Lib.hid (And.intro h3 (And.intro h4 (And.intro h5 (((hB1.setCell (p := ⟨X, 0, none⟩) HX.out (.int .i64 0)).setCell (p := ⟨X + 1, 0, none⟩) (by have := HX.out; show _ ≤ X + 1; omega) (.int .i64 0)).setCell (p := ⟨X + 2, 0, none⟩) (by have := HX.out; show _ ≤ X + 2; omega) (.int .i64 2)))))
  have HM1 := Lib.hid hB1
  clear h3 h4 h5 bx bj be hb1 hB1 HK HW
  have CL := Lib.hid (len_ok M F B pars L W1 (HM.out.below HM1.out))
  go_wp2_with (go_at_call 10; refine CL.out.mono ?_; rintro e wl ⟨rfl, rfl⟩)
  exact ⟨.tuple #[.int .i64 0, .int .i64 0, .int .i64 2], by simp [results, Try.results9, go_sem, HEND.out.1, HEND.out.2.1, HEND.out.2.2.1], rfl, HEND.out.2.2.2⟩
set_option maxRecDepth 100000 in
set_option maxHeartbeats 2000000 in
theorem put_two (M : Nat) (F : Nat → Prop) (B pars : Nat) (L : List Key) (w : World) (h : Mkr w M F B pars L) (hl : 0 < L.length) :
    Calls Try.prog 9 #[.pointer (some ⟨M, 0, none⟩), .int .i64 0, .int .i64 (-2), .int .i64 (-1)] w fun e w' => e = .returned (.tuple #[.int .i64 0, .int .i64 0, .int .i64 2]) ∧ Below w.heap.size w w' := by
  obtain ⟨W, hW⟩ : ∃ W, (((w.alloc (.cells #[.int .i64 0] 3)).alloc (.cells #[.int .i64 0] 3)).alloc (.cells #[.int .i64 0] 24)).alloc (.cells #[.pointer (some ⟨M, 0, none⟩)] 56) = W := ⟨_, rfl⟩
  obtain ⟨X, hX⟩ : ∃ X, w.heap.size = X := ⟨_, rfl⟩
  have hbw : Below w.heap.size w W := by rw [← hW]; exact ((((Below.refl w.heap.size w).alloc (Nat.le_refl _) _).alloc (by simp) _).alloc (by simp; omega) _).alloc (by simp; omega) _
  have kx : Blk W X 3 [.int .i64 0] := by rw [← hW]; exact (((blk_new _ _ [_] _ hX).alloc _).alloc _).alloc _
  have kj : Blk W (X + 1) 3 [.int .i64 0] := by rw [← hW]; exact ((blk_new _ _ [_] _ (by simp [hX])).alloc _).alloc _
  have ke : Blk W (X + 2) 24 [.int .i64 0] := by rw [← hW]; exact (blk_new _ _ [_] _ (by simp [hX])).alloc _
  have HW := Lib.hid (And.intro hW hbw)
  have HK := Lib.hid (And.intro kx (And.intro kj ke))
  have HX := Lib.hid (show w.heap.size ≤ X by omega)
  have HM := Lib.hid h
  have hl2 : ¬ ((L.length : Int) ≤ 0) := by omega
  have hl3 : ¬ (L.length ≤ 0) := by omega
  have hl4 : ¬ (L = []) := by rintro rfl; simp at hl
  clear h
  clear hW hbw kx kj ke
  go_enter_defers Try.func9, Try.ntmps9
  go_wp2_with fail
  rw [HW.out.1]
  refine (one_bad M F B pars L W (HM.out.below HW.out.2)).mono ?_
  rintro e W1 ⟨rfl, hb1⟩
  have hB1 := HW.out.2.trans (hb1.mono HW.out.2.size)
  have bx := HK.out.1.below hb1 HK.out.1.lt
  have bj := HK.out.2.1.below hb1 HK.out.2.1.lt
  have be := HK.out.2.2.below hb1 HK.out.2.2.lt
  have x0 := bx.cell 0
  have j0 := (bj.far (p := ⟨X, 0, none⟩) (by show X + 1 ≠ X; omega) (.int .i64 0)).cell 0
  have e0 := ((be.far (p := ⟨X, 0, none⟩) (by show X + 2 ≠ X; omega) (.int .i64 0)).far (p := ⟨X + 1, 0, none⟩) (by show X + 2 ≠ X + 1; omega) (.int .i64 0)).cell 0
  have fx := bx.frozen 0 (by simp)
  have fj := (bj.far (p := ⟨X, 0, none⟩) (by show X + 1 ≠ X; omega) (.int .i64 0)).frozen 0 (by simp)
  have fe := ((be.far (p := ⟨X, 0, none⟩) (by show X + 2 ≠ X; omega) (.int .i64 0)).far (p := ⟨X + 1, 0, none⟩) (by show X + 2 ≠ X + 1; omega) (.int .i64 0)).frozen 0 (by simp)
  have h3 := (((bx.set_ 0 (.int .i64 0)).far (p := ⟨X + 1, 0, none⟩) (by show X ≠ X + 1; omega) (.int .i64 0)).far (p := ⟨X + 2, 0, none⟩) (by show X ≠ X + 2; omega) (.int .i64 2)).cell 0
  have h4 := (((bj.far (p := ⟨X, 0, none⟩) (by show X + 1 ≠ X; omega) (.int .i64 0)).set_ 0 (.int .i64 0)).far (p := ⟨X + 2, 0, none⟩) (by show X + 1 ≠ X + 2; omega) (.int .i64 2)).cell 0
  have h5 := (((be.far (p := ⟨X, 0, none⟩) (by show X + 2 ≠ X; omega) (.int .i64 0)).far (p := ⟨X + 1, 0, none⟩) (by show X + 2 ≠ X + 1; omega) (.int .i64 0)).set_ 0 (.int .i64 2)).cell 0
  simp only [List.set_cons_zero, List.getElem?_cons_zero] at x0 j0 e0 h3 h4 h5
  have HEND := Lib.hid (And.intro h3 (And.intro h4 (And.intro h5 (((hB1.setCell (p := ⟨X, 0, none⟩) HX.out (.int .i64 0)).setCell (p := ⟨X + 1, 0, none⟩) (by have := HX.out; show _ ≤ X + 1; omega) (.int .i64 0)).setCell (p := ⟨X + 2, 0, none⟩) (by have := HX.out; show _ ≤ X + 2; omega) (.int .i64 2)))))
  have HM1 := Lib.hid hB1
  clear h3 h4 h5 bx bj be hb1 hB1 HK HW
  have CL := Lib.hid (len_ok M F B pars L W1 (HM.out.below HM1.out))
  go_wp2_with (go_at_call 10; refine CL.out.mono ?_; rintro e wl ⟨rfl, rfl⟩)
  exact ⟨.tuple #[.int .i64 0, .int .i64 0, .int .i64 2], by simp [results, Try.results9, go_sem, HEND.out.1, HEND.out.2.1, HEND.out.2.2.1], rfl, HEND.out.2.2.2⟩
set_option maxRecDepth 100000 in
set_option maxHeartbeats 2000000 in
theorem put_nil (w : World) :
    Calls Try.prog 9 #[.pointer none, .int .i64 0, .int .i64 (-1), .int .i64 (-1)] w fun e w' => e = .returned (.tuple #[.int .i64 0, .int .i64 0, .int .i64 1]) ∧ Below w.heap.size w w' := by
  obtain ⟨W, hW⟩ : ∃ W, (((w.alloc (.cells #[.int .i64 0] 3)).alloc (.cells #[.int .i64 0] 3)).alloc (.cells #[.int .i64 0] 24)).alloc (.cells #[.pointer none] 56) = W := ⟨_, rfl⟩
  obtain ⟨X, hX⟩ : ∃ X, w.heap.size = X := ⟨_, rfl⟩
  have hbw : Below w.heap.size w W := by rw [← hW]; exact ((((Below.refl w.heap.size w).alloc (Nat.le_refl _) _).alloc (by simp) _).alloc (by simp; omega) _).alloc (by simp; omega) _
  have kx : Blk W X 3 [.int .i64 0] := by rw [← hW]; exact (((blk_new _ _ [_] _ hX).alloc _).alloc _).alloc _
  have kj : Blk W (X + 1) 3 [.int .i64 0] := by rw [← hW]; exact ((blk_new _ _ [_] _ (by simp [hX])).alloc _).alloc _
  have ke : Blk W (X + 2) 24 [.int .i64 0] := by rw [← hW]; exact (blk_new _ _ [_] _ (by simp [hX])).alloc _
  have HW := Lib.hid (And.intro hW hbw)
  have HK := Lib.hid (And.intro kx (And.intro kj ke))
  have HX := Lib.hid (show w.heap.size ≤ X by omega)
  clear hW hbw kx kj ke
  go_enter_defers Try.func9, Try.ntmps9
  go_wp2_with fail
  rw [HW.out.1]
  refine (one_nil W).mono ?_
  rintro e W1 ⟨rfl, hb1⟩
  have hB1 := HW.out.2.trans (hb1.mono HW.out.2.size)
  have bx := HK.out.1.below hb1 HK.out.1.lt
  have bj := HK.out.2.1.below hb1 HK.out.2.1.lt
  have be := HK.out.2.2.below hb1 HK.out.2.2.lt
  have x0 := bx.cell 0
  have j0 := (bj.far (p := ⟨X, 0, none⟩) (by show X + 1 ≠ X; omega) (.int .i64 0)).cell 0
  have e0 := ((be.far (p := ⟨X, 0, none⟩) (by show X + 2 ≠ X; omega) (.int .i64 0)).far (p := ⟨X + 1, 0, none⟩) (by show X + 2 ≠ X + 1; omega) (.int .i64 0)).cell 0
  have fx := bx.frozen 0 (by simp)
  have fj := (bj.far (p := ⟨X, 0, none⟩) (by show X + 1 ≠ X; omega) (.int .i64 0)).frozen 0 (by simp)
  have fe := ((be.far (p := ⟨X, 0, none⟩) (by show X + 2 ≠ X; omega) (.int .i64 0)).far (p := ⟨X + 1, 0, none⟩) (by show X + 2 ≠ X + 1; omega) (.int .i64 0)).frozen 0 (by simp)
  have h3 := (((bx.set_ 0 (.int .i64 0)).far (p := ⟨X + 1, 0, none⟩) (by show X ≠ X + 1; omega) (.int .i64 0)).far (p := ⟨X + 2, 0, none⟩) (by show X ≠ X + 2; omega) (.int .i64 1)).cell 0
  have h4 := (((bj.far (p := ⟨X, 0, none⟩) (by show X + 1 ≠ X; omega) (.int .i64 0)).set_ 0 (.int .i64 0)).far (p := ⟨X + 2, 0, none⟩) (by show X + 1 ≠ X + 2; omega) (.int .i64 1)).cell 0
  have h5 := (((be.far (p := ⟨X, 0, none⟩) (by show X + 2 ≠ X; omega) (.int .i64 0)).far (p := ⟨X + 1, 0, none⟩) (by show X + 2 ≠ X + 1; omega) (.int .i64 0)).set_ 0 (.int .i64 1)).cell 0
  simp only [List.set_cons_zero, List.getElem?_cons_zero] at x0 j0 e0 h3 h4 h5
  have HEND := Lib.hid (And.intro h3 (And.intro h4 (And.intro h5 (((hB1.setCell (p := ⟨X, 0, none⟩) HX.out (.int .i64 0)).setCell (p := ⟨X + 1, 0, none⟩) (by have := HX.out; show _ ≤ X + 1; omega) (.int .i64 0)).setCell (p := ⟨X + 2, 0, none⟩) (by have := HX.out; show _ ≤ X + 2; omega) (.int .i64 1)))))
  have HM1 := Lib.hid hB1
  clear h3 h4 h5 bx bj be hb1 hB1 HK HW
  go_wp2_with fail
  exact ⟨.tuple #[.int .i64 0, .int .i64 0, .int .i64 1], by simp [results, Try.results9, go_sem, HEND.out.1, HEND.out.2.1, HEND.out.2.2.1], rfl, HEND.out.2.2.2⟩
/-- The parameter's key. -/
def kPar : Key := ⟨2, 0, 0, []⟩
/-- What the closure comes to: a parameter, two numbers, a chart; or the error of no room. -/
def MadeE (w : World) (M : Nat) (F : Nat → Prop) (B : Nat) (low high : Int) (fs : Nat → Nat → List (List Nat → Key)) (tell : List Nat → Value) (e : Ending) (w' : World) : Prop :=
  (∃ i L1 k L2 rs L3 F', put B [kPar] (numK low) = some (i, L1) ∧ put B L1 (numK high) = some (k, L2) ∧ runS B L2 [] (fs i k) = some (rs, L3) ∧ e = .returned (tell rs) ∧ Mkr w' M F' B 1 L3 ∧ Sp F w F' w') ∨
  ((put B [kPar] (numK low) = none ∨ (∃ i L1, put B [kPar] (numK low) = some (i, L1) ∧ put B L1 (numK high) = none) ∨ (∃ i L1 k L2, put B [kPar] (numK low) = some (i, L1) ∧ put B L1 (numK high) = some (k, L2) ∧ runS B L2 [] (fs i k) = none)) ∧
    e = .returned (.tuple #[.int .i64 0, .int .i64 0, .int .i64 171]) ∧ ∃ F', Sp F w F' w')
/-- The law's three boxes. -/
structure Bx (V : World) (F : Nat → Prop) (bl bh bw : Nat) (low high : Int) (which : Nat) : Prop where
  kl : Blk V bl 22 [.int .i8 low]
  kh : Blk V bh 22 [.int .i8 high]
  kw : Blk V bw 5 [.int .u8 (which : Int)]
  nl : ¬ F bl
  nh : ¬ F bh
  nw : ¬ F bw
theorem Bx.below {V V' : World} {F : Nat → Prop} {bl bh bw : Nat} {low high : Int} {which : Nat} (h : Bx V F bl bh bw low high which) (hb : Below V.heap.size V V') : Bx V' F bl bh bw low high which :=
  ⟨h.kl.below hb h.kl.lt, h.kh.below hb h.kh.lt, h.kw.below hb h.kw.lt, h.nl, h.nh, h.nw⟩
theorem Bx.sp {V V' : World} {F F' : Nat → Prop} {bl bh bw : Nat} {low high : Int} {which : Nat} (h : Bx V F bl bh bw low high which) (hs : Sp F V F' V') : Bx V' F' bl bh bw low high which := by
  have hn : ∀ g, g < V.heap.size → ¬ F g → ¬ F' g := fun g hg hn hF => by
    rcases hs.foot g hF with h1 | h1
    · exact hn h1
    · omega
  exact ⟨hs.blk h.kl h.nl, hs.blk h.kh h.nh, hs.blk h.kw h.nw, hn _ h.kl.lt h.nl, hn _ h.kh.lt h.nh, hn _ h.kw.lt h.nw⟩
theorem Bx.cells {V : World} {F : Nat → Prop} {bl bh bw : Nat} {low high : Int} {which : Nat} (h : Bx V F bl bh bw low high which) : V.cell? ⟨bl, 0, none⟩ = some (.int .i8 low) ∧ V.cell? ⟨bh, 0, none⟩ = some (.int .i8 high) ∧ V.cell? ⟨bw, 0, none⟩ = some (.int .u8 (which : Int)) :=
  ⟨h.kl.cell 0, h.kh.cell 0, h.kw.cell 0⟩
theorem numK_room (B : Nat) (L : List Key) (k : Key) : (∃ i L', put B L k = some (i, L')) ∨ put B L k = none := by
  rcases h : put B L k with _ | ⟨i, L'⟩
  · exact .inr rfl
  · exact .inl ⟨i, L', rfl⟩
set_option maxRecDepth 100000 in
set_option maxHeartbeats 4000000 in
theorem made_00 (M : Nat) (F : Nat → Prop) (B : Nat) (low high : Int) (which bl bh bw : Nat) (w : World) (h : Mkr w M F B 0 []) (hB : 1 ≤ B) (hr : -128 ≤ low ∧ low ≤ 127 ∧ -128 ≤ high ∧ high ≤ 127) (hx : Bx w F bl bh bw low high which) (hw : which < 256) (h1 : which % 2 = 0) (h2 : which / 2 % 2 = 0) :
    Calls Try.prog 5 #[.pointer (some ⟨M, 0, none⟩), .pointer (some ⟨bl, 0, none⟩), .pointer (some ⟨bh, 0, none⟩), .pointer (some ⟨bw, 0, none⟩)] w (MadeE w M F B low high (fun _ _ => [fun _ => numK 0]) (fun r => .tuple #[.int .i64 ((0 : Nat) : Int), .int .i64 ((r.getD 0 0 : Nat) : Int), .int .i64 0])) := by
  have w1 := IntWalk.i64_in low (by omega)
  have w2 := IntWalk.i64_in high (by omega)
  obtain ⟨qt, hq⟩ : ∃ q : Nat, which / 2 = q := ⟨_, rfl⟩
  have hqi : (which : Int) / 2 = (qt : Int) := by omega
  have hqt : Int.tdiv (which : Int) 2 = (qt : Int) := by rw [Int.tdiv_eq_ediv_of_nonneg (by omega)]; omega
  have hm1 : (which : Int) % 2 = 0 := by omega
  have hm1t : Int.tmod (which : Int) 2 = 0 := by rw [Int.tmod_eq_emod_of_nonneg (by omega)]; omega
  have hm2 : (qt : Int) % 2 = 0 := by omega
  have hm2t : Int.tmod (qt : Int) 2 = 0 := by rw [Int.tmod_eq_emod_of_nonneg (by omega)]; omega
  have hm3 : qt % 2 = 0 := by omega
  have HB := Lib.hid (And.intro hr hB)
  have CP := Lib.hid (par_ok M F B w h hB)
  have HX := Lib.hid hx
  obtain ⟨c1, c2, c3⟩ := hx.cells
  clear h hx
  go_enter Try.func5, Try.ntmps5
  go_wp2_with fail
  refine CP.out.mono ?_
  rintro e W1 ⟨F1, rfl, hm1', hs1⟩
  have HX1 := Lib.hid (HX.out.sp hs1)
  have HM1 := Lib.hid (And.intro hm1' hs1)
  clear c1 c2 c3 hm1' hs1 CP
  obtain ⟨c1, c2, c3⟩ := HX1.out.cells
  go_wp2_with fail
  refine (of_any low _ (by have := HB.out.1; omega) (by have := HB.out.1; omega)).mono ?_
  rintro e W2 ⟨⟨v, rfl, hv⟩, hb⟩
  have CN := Lib.hid (num_ok M F1 B 1 [kPar] (decide (low < 0)) low.natAbs _ v W2 (HM1.out.1.below hb) (small_lim low (by have := HB.out.1; omega) (by have := HB.out.1; omega)) (zneg_small low) hv)
  have HX2 := Lib.hid (HX1.out.below hb)
  have HS2 := Lib.hid (HM1.out.2.below hb)
  clear c1 c2 c3 hb hv HX1
  go_wp2_with fail
  refine CN.out.mono ?_
  rintro e W3 (⟨i, L1, F3, q1, rfl, q3, q4⟩ | ⟨q1, rfl, q3, q4⟩)
  · have HX3 := Lib.hid (HX2.out.sp q4)
    have H3 := Lib.hid (And.intro q1 (And.intro q3 (HS2.out.trans q4)))
    clear q1 q3 q4 CN HX2 HS2
    obtain ⟨c1, c2, c3⟩ := HX3.out.cells
    go_wp2_with fail
    refine (of_any high _ (by have := HB.out.1; omega) (by have := HB.out.1; omega)).mono ?_
    rintro e W4 ⟨⟨v, rfl, hv⟩, hb⟩
    have CN := Lib.hid (num_ok M F3 B 1 L1 (decide (high < 0)) high.natAbs _ v W4 (H3.out.2.1.below hb) (small_lim high (by have := HB.out.1; omega) (by have := HB.out.1; omega)) (zneg_small high) hv)
    have HX4 := Lib.hid (HX3.out.below hb)
    have HS4 := Lib.hid (H3.out.2.2.below hb)
    clear c1 c2 c3 hb hv HX3
    go_wp2_with fail
    refine CN.out.mono ?_
    rintro e W5 (⟨k, L2, F5, q1, rfl, q3, q4⟩ | ⟨q1, rfl, q3, q4⟩)
    · have HX5 := Lib.hid (HX4.out.sp q4)
      have H5 := Lib.hid (And.intro q1 (And.intro q3 (HS4.out.trans q4)))
      have hk := put_lt q1
      have hi := Nat.lt_of_lt_of_le (put_lt H3.out.1) (put_pre q1).1.length_le
      have h0 : 0 < L2.length := by omega
      have HP := Lib.hid (And.intro q3 (And.intro h0 (And.intro hi hk)))
      clear q1 q3 q4 CN HX4 HS4 hk hi h0
      obtain ⟨c1, c2, c3⟩ := HX5.out.cells
      go_wp2_with fail
      refine (put_free M _ B 1 _ 0 _ HP.out.1 HP.out.2.1).mono ?_
      rintro e W6 (⟨rs, L3, F6, q1, rfl, q3, q4⟩ | ⟨q1, rfl, F6, L6, q3, q4⟩)
      · have HE := Lib.hid (show MadeE w M F B low high (fun _ _ => [fun _ => numK 0]) (fun r => .tuple #[.int .i64 ((0 : Nat) : Int), .int .i64 ((r.getD 0 0 : Nat) : Int), .int .i64 0]) (.returned ((fun r => .tuple #[.int .i64 ((0 : Nat) : Int), .int .i64 ((r.getD 0 0 : Nat) : Int), .int .i64 0]) rs)) W6 from .inl ⟨i, L1, k, L2, rs, L3, F6, H3.out.1, H5.out.1, q1, rfl, q3, H5.out.2.2.trans q4⟩)
        clear q1 q3 q4 c1 c2 c3
        go_wp2_with fail
        go_ret3
        exact HE.out
      · have HE := Lib.hid (show MadeE w M F B low high (fun _ _ => [fun _ => numK 0]) (fun r => .tuple #[.int .i64 ((0 : Nat) : Int), .int .i64 ((r.getD 0 0 : Nat) : Int), .int .i64 0]) (.returned (.tuple #[.int .i64 0, .int .i64 0, .int .i64 171])) W6 from .inr ⟨.inr (.inr ⟨i, L1, k, L2, H3.out.1, H5.out.1, q1⟩), rfl, F6, H5.out.2.2.trans q4⟩)
        clear q1 q3 q4 c1 c2 c3
        go_wp2_with fail
        go_ret3
        exact HE.out
    · have HE := Lib.hid (show MadeE w M F B low high (fun _ _ => [fun _ => numK 0]) (fun r => .tuple #[.int .i64 ((0 : Nat) : Int), .int .i64 ((r.getD 0 0 : Nat) : Int), .int .i64 0]) (.returned (.tuple #[.int .i64 0, .int .i64 0, .int .i64 171])) W5 from .inr ⟨.inr (.inl ⟨i, L1, H3.out.1, q1⟩), rfl, F3, HS4.out.trans q4⟩)
      clear q1 q3 q4 CN HX4 HS4
      go_wp2_with fail
      go_ret3
      exact HE.out
  · have HX3 := Lib.hid (HX2.out.sp q4)
    have H3 := Lib.hid (And.intro q1 (And.intro q3 (HS2.out.trans q4)))
    clear q1 q3 q4 CN HX2 HS2
    obtain ⟨c1, c2, c3⟩ := HX3.out.cells
    go_wp2_with fail
    refine (of_any high _ (by have := HB.out.1; omega) (by have := HB.out.1; omega)).mono ?_
    rintro e W4 ⟨⟨v, rfl, hv⟩, hb⟩
    have CN := Lib.hid ((num_ok M F1 B 1 [kPar] (decide (high < 0)) high.natAbs _ v W4 (H3.out.2.1.below hb) (small_lim high (by have := HB.out.1; omega) (by have := HB.out.1; omega)) (zneg_small high) hv).mono (fun e w' hh => show ∃ i no F5, e = .returned (.tuple #[.int .i64 i, .int .i64 no]) ∧ Sp F1 W4 F5 w' from by
      rcases hh with ⟨i, L', F', g1, g2, g3, g4⟩ | ⟨g1, g2, g3, g4⟩
      · exact ⟨_, _, F', g2, g4⟩
      · exact ⟨_, _, F1, g2, g4⟩))
    have HS4 := Lib.hid (H3.out.2.2.below hb)
    clear c1 c2 c3 hb hv HX3
    go_wp2_with fail
    refine CN.out.mono ?_
    rintro e W5 ⟨i5, no5, F5, rfl, q4⟩
    have HE := Lib.hid (show MadeE w M F B low high (fun _ _ => [fun _ => numK 0]) (fun r => .tuple #[.int .i64 ((0 : Nat) : Int), .int .i64 ((r.getD 0 0 : Nat) : Int), .int .i64 0]) (.returned (.tuple #[.int .i64 0, .int .i64 0, .int .i64 171])) W5 from .inr ⟨.inl H3.out.1, rfl, F5, HS4.out.trans q4⟩)
    clear q4
    go_wp2_with fail
    go_ret3
    exact HE.out
set_option maxRecDepth 100000 in
set_option maxHeartbeats 4000000 in
theorem made_01 (M : Nat) (F : Nat → Prop) (B : Nat) (low high : Int) (which bl bh bw : Nat) (w : World) (h : Mkr w M F B 0 []) (hB : 1 ≤ B) (hr : -128 ≤ low ∧ low ≤ 127 ∧ -128 ≤ high ∧ high ≤ 127) (hx : Bx w F bl bh bw low high which) (hw : which < 256) (h1 : which % 2 = 0) (h2 : which / 2 % 2 = 1) :
    Calls Try.prog 5 #[.pointer (some ⟨M, 0, none⟩), .pointer (some ⟨bl, 0, none⟩), .pointer (some ⟨bh, 0, none⟩), .pointer (some ⟨bw, 0, none⟩)] w (MadeE w M F B low high (fun _ k => [fun _ => ⟨8, 0, 0, []⟩, fun r => ⟨4, k, r.getD 0 0, []⟩]) (fun r => .tuple #[.int .i64 ((r.getD 1 0 : Nat) : Int), .int .i64 ((0 : Nat) : Int), .int .i64 0])) := by
  have w1 := IntWalk.i64_in low (by omega)
  have w2 := IntWalk.i64_in high (by omega)
  obtain ⟨qt, hq⟩ : ∃ q : Nat, which / 2 = q := ⟨_, rfl⟩
  have hqi : (which : Int) / 2 = (qt : Int) := by omega
  have hqt : Int.tdiv (which : Int) 2 = (qt : Int) := by rw [Int.tdiv_eq_ediv_of_nonneg (by omega)]; omega
  have hm1 : (which : Int) % 2 = 0 := by omega
  have hm1t : Int.tmod (which : Int) 2 = 0 := by rw [Int.tmod_eq_emod_of_nonneg (by omega)]; omega
  have hm2 : (qt : Int) % 2 = 1 := by omega
  have hm2t : Int.tmod (qt : Int) 2 = 1 := by rw [Int.tmod_eq_emod_of_nonneg (by omega)]; omega
  have hm3 : qt % 2 = 1 := by omega
  have HB := Lib.hid (And.intro hr hB)
  have CP := Lib.hid (par_ok M F B w h hB)
  have HX := Lib.hid hx
  obtain ⟨c1, c2, c3⟩ := hx.cells
  clear h hx
  go_enter Try.func5, Try.ntmps5
  go_wp2_with fail
  refine CP.out.mono ?_
  rintro e W1 ⟨F1, rfl, hm1', hs1⟩
  have HX1 := Lib.hid (HX.out.sp hs1)
  have HM1 := Lib.hid (And.intro hm1' hs1)
  clear c1 c2 c3 hm1' hs1 CP
  obtain ⟨c1, c2, c3⟩ := HX1.out.cells
  go_wp2_with fail
  refine (of_any low _ (by have := HB.out.1; omega) (by have := HB.out.1; omega)).mono ?_
  rintro e W2 ⟨⟨v, rfl, hv⟩, hb⟩
  have CN := Lib.hid (num_ok M F1 B 1 [kPar] (decide (low < 0)) low.natAbs _ v W2 (HM1.out.1.below hb) (small_lim low (by have := HB.out.1; omega) (by have := HB.out.1; omega)) (zneg_small low) hv)
  have HX2 := Lib.hid (HX1.out.below hb)
  have HS2 := Lib.hid (HM1.out.2.below hb)
  clear c1 c2 c3 hb hv HX1
  go_wp2_with fail
  refine CN.out.mono ?_
  rintro e W3 (⟨i, L1, F3, q1, rfl, q3, q4⟩ | ⟨q1, rfl, q3, q4⟩)
  · have HX3 := Lib.hid (HX2.out.sp q4)
    have H3 := Lib.hid (And.intro q1 (And.intro q3 (HS2.out.trans q4)))
    clear q1 q3 q4 CN HX2 HS2
    obtain ⟨c1, c2, c3⟩ := HX3.out.cells
    go_wp2_with fail
    refine (of_any high _ (by have := HB.out.1; omega) (by have := HB.out.1; omega)).mono ?_
    rintro e W4 ⟨⟨v, rfl, hv⟩, hb⟩
    have CN := Lib.hid (num_ok M F3 B 1 L1 (decide (high < 0)) high.natAbs _ v W4 (H3.out.2.1.below hb) (small_lim high (by have := HB.out.1; omega) (by have := HB.out.1; omega)) (zneg_small high) hv)
    have HX4 := Lib.hid (HX3.out.below hb)
    have HS4 := Lib.hid (H3.out.2.2.below hb)
    clear c1 c2 c3 hb hv HX3
    go_wp2_with fail
    refine CN.out.mono ?_
    rintro e W5 (⟨k, L2, F5, q1, rfl, q3, q4⟩ | ⟨q1, rfl, q3, q4⟩)
    · have HX5 := Lib.hid (HX4.out.sp q4)
      have H5 := Lib.hid (And.intro q1 (And.intro q3 (HS4.out.trans q4)))
      have hk := put_lt q1
      have hi := Nat.lt_of_lt_of_le (put_lt H3.out.1) (put_pre q1).1.length_le
      have h0 : 0 < L2.length := by omega
      have HP := Lib.hid (And.intro q3 (And.intro h0 (And.intro hi hk)))
      clear q1 q3 q4 CN HX4 HS4 hk hi h0
      obtain ⟨c1, c2, c3⟩ := HX5.out.cells
      go_wp2_with fail
      refine (put_upper M _ B 1 _ 0 k _ HP.out.1 HP.out.2.1 HP.out.2.2.2).mono ?_
      rintro e W6 (⟨rs, L3, F6, q1, rfl, q3, q4⟩ | ⟨q1, rfl, F6, L6, q3, q4⟩)
      · have HE := Lib.hid (show MadeE w M F B low high (fun _ k => [fun _ => ⟨8, 0, 0, []⟩, fun r => ⟨4, k, r.getD 0 0, []⟩]) (fun r => .tuple #[.int .i64 ((r.getD 1 0 : Nat) : Int), .int .i64 ((0 : Nat) : Int), .int .i64 0]) (.returned ((fun r => .tuple #[.int .i64 ((r.getD 1 0 : Nat) : Int), .int .i64 ((0 : Nat) : Int), .int .i64 0]) rs)) W6 from .inl ⟨i, L1, k, L2, rs, L3, F6, H3.out.1, H5.out.1, q1, rfl, q3, H5.out.2.2.trans q4⟩)
        clear q1 q3 q4 c1 c2 c3
        go_wp2_with fail
        go_ret3
        exact HE.out
      · have HE := Lib.hid (show MadeE w M F B low high (fun _ k => [fun _ => ⟨8, 0, 0, []⟩, fun r => ⟨4, k, r.getD 0 0, []⟩]) (fun r => .tuple #[.int .i64 ((r.getD 1 0 : Nat) : Int), .int .i64 ((0 : Nat) : Int), .int .i64 0]) (.returned (.tuple #[.int .i64 0, .int .i64 0, .int .i64 171])) W6 from .inr ⟨.inr (.inr ⟨i, L1, k, L2, H3.out.1, H5.out.1, q1⟩), rfl, F6, H5.out.2.2.trans q4⟩)
        clear q1 q3 q4 c1 c2 c3
        go_wp2_with fail
        go_ret3
        exact HE.out
    · have HE := Lib.hid (show MadeE w M F B low high (fun _ k => [fun _ => ⟨8, 0, 0, []⟩, fun r => ⟨4, k, r.getD 0 0, []⟩]) (fun r => .tuple #[.int .i64 ((r.getD 1 0 : Nat) : Int), .int .i64 ((0 : Nat) : Int), .int .i64 0]) (.returned (.tuple #[.int .i64 0, .int .i64 0, .int .i64 171])) W5 from .inr ⟨.inr (.inl ⟨i, L1, H3.out.1, q1⟩), rfl, F3, HS4.out.trans q4⟩)
      clear q1 q3 q4 CN HX4 HS4
      go_wp2_with fail
      go_ret3
      exact HE.out
  · have HX3 := Lib.hid (HX2.out.sp q4)
    have H3 := Lib.hid (And.intro q1 (And.intro q3 (HS2.out.trans q4)))
    clear q1 q3 q4 CN HX2 HS2
    obtain ⟨c1, c2, c3⟩ := HX3.out.cells
    go_wp2_with fail
    refine (of_any high _ (by have := HB.out.1; omega) (by have := HB.out.1; omega)).mono ?_
    rintro e W4 ⟨⟨v, rfl, hv⟩, hb⟩
    have CN := Lib.hid ((num_ok M F1 B 1 [kPar] (decide (high < 0)) high.natAbs _ v W4 (H3.out.2.1.below hb) (small_lim high (by have := HB.out.1; omega) (by have := HB.out.1; omega)) (zneg_small high) hv).mono (fun e w' hh => show ∃ i no F5, e = .returned (.tuple #[.int .i64 i, .int .i64 no]) ∧ Sp F1 W4 F5 w' from by
      rcases hh with ⟨i, L', F', g1, g2, g3, g4⟩ | ⟨g1, g2, g3, g4⟩
      · exact ⟨_, _, F', g2, g4⟩
      · exact ⟨_, _, F1, g2, g4⟩))
    have HS4 := Lib.hid (H3.out.2.2.below hb)
    clear c1 c2 c3 hb hv HX3
    go_wp2_with fail
    refine CN.out.mono ?_
    rintro e W5 ⟨i5, no5, F5, rfl, q4⟩
    have HE := Lib.hid (show MadeE w M F B low high (fun _ k => [fun _ => ⟨8, 0, 0, []⟩, fun r => ⟨4, k, r.getD 0 0, []⟩]) (fun r => .tuple #[.int .i64 ((r.getD 1 0 : Nat) : Int), .int .i64 ((0 : Nat) : Int), .int .i64 0]) (.returned (.tuple #[.int .i64 0, .int .i64 0, .int .i64 171])) W5 from .inr ⟨.inl H3.out.1, rfl, F5, HS4.out.trans q4⟩)
    clear q4
    go_wp2_with fail
    go_ret3
    exact HE.out
set_option maxRecDepth 100000 in
set_option maxHeartbeats 4000000 in
theorem made_10 (M : Nat) (F : Nat → Prop) (B : Nat) (low high : Int) (which bl bh bw : Nat) (w : World) (h : Mkr w M F B 0 []) (hB : 1 ≤ B) (hr : -128 ≤ low ∧ low ≤ 127 ∧ -128 ≤ high ∧ high ≤ 127) (hx : Bx w F bl bh bw low high which) (hw : which < 256) (h1 : which % 2 = 1) (h2 : which / 2 % 2 = 0) :
    Calls Try.prog 5 #[.pointer (some ⟨M, 0, none⟩), .pointer (some ⟨bl, 0, none⟩), .pointer (some ⟨bh, 0, none⟩), .pointer (some ⟨bw, 0, none⟩)] w (MadeE w M F B low high (fun i _ => [fun _ => ⟨8, 0, 0, []⟩, fun r => ⟨3, i, r.getD 0 0, []⟩]) (fun r => .tuple #[.int .i64 ((r.getD 1 0 : Nat) : Int), .int .i64 ((0 : Nat) : Int), .int .i64 0])) := by
  have w1 := IntWalk.i64_in low (by omega)
  have w2 := IntWalk.i64_in high (by omega)
  obtain ⟨qt, hq⟩ : ∃ q : Nat, which / 2 = q := ⟨_, rfl⟩
  have hqi : (which : Int) / 2 = (qt : Int) := by omega
  have hqt : Int.tdiv (which : Int) 2 = (qt : Int) := by rw [Int.tdiv_eq_ediv_of_nonneg (by omega)]; omega
  have hm1 : (which : Int) % 2 = 1 := by omega
  have hm1t : Int.tmod (which : Int) 2 = 1 := by rw [Int.tmod_eq_emod_of_nonneg (by omega)]; omega
  have hm2 : (qt : Int) % 2 = 0 := by omega
  have hm2t : Int.tmod (qt : Int) 2 = 0 := by rw [Int.tmod_eq_emod_of_nonneg (by omega)]; omega
  have hm3 : qt % 2 = 0 := by omega
  have HB := Lib.hid (And.intro hr hB)
  have CP := Lib.hid (par_ok M F B w h hB)
  have HX := Lib.hid hx
  obtain ⟨c1, c2, c3⟩ := hx.cells
  clear h hx
  go_enter Try.func5, Try.ntmps5
  go_wp2_with fail
  refine CP.out.mono ?_
  rintro e W1 ⟨F1, rfl, hm1', hs1⟩
  have HX1 := Lib.hid (HX.out.sp hs1)
  have HM1 := Lib.hid (And.intro hm1' hs1)
  clear c1 c2 c3 hm1' hs1 CP
  obtain ⟨c1, c2, c3⟩ := HX1.out.cells
  go_wp2_with fail
  refine (of_any low _ (by have := HB.out.1; omega) (by have := HB.out.1; omega)).mono ?_
  rintro e W2 ⟨⟨v, rfl, hv⟩, hb⟩
  have CN := Lib.hid (num_ok M F1 B 1 [kPar] (decide (low < 0)) low.natAbs _ v W2 (HM1.out.1.below hb) (small_lim low (by have := HB.out.1; omega) (by have := HB.out.1; omega)) (zneg_small low) hv)
  have HX2 := Lib.hid (HX1.out.below hb)
  have HS2 := Lib.hid (HM1.out.2.below hb)
  clear c1 c2 c3 hb hv HX1
  go_wp2_with fail
  refine CN.out.mono ?_
  rintro e W3 (⟨i, L1, F3, q1, rfl, q3, q4⟩ | ⟨q1, rfl, q3, q4⟩)
  · have HX3 := Lib.hid (HX2.out.sp q4)
    have H3 := Lib.hid (And.intro q1 (And.intro q3 (HS2.out.trans q4)))
    clear q1 q3 q4 CN HX2 HS2
    obtain ⟨c1, c2, c3⟩ := HX3.out.cells
    go_wp2_with fail
    refine (of_any high _ (by have := HB.out.1; omega) (by have := HB.out.1; omega)).mono ?_
    rintro e W4 ⟨⟨v, rfl, hv⟩, hb⟩
    have CN := Lib.hid (num_ok M F3 B 1 L1 (decide (high < 0)) high.natAbs _ v W4 (H3.out.2.1.below hb) (small_lim high (by have := HB.out.1; omega) (by have := HB.out.1; omega)) (zneg_small high) hv)
    have HX4 := Lib.hid (HX3.out.below hb)
    have HS4 := Lib.hid (H3.out.2.2.below hb)
    clear c1 c2 c3 hb hv HX3
    go_wp2_with fail
    refine CN.out.mono ?_
    rintro e W5 (⟨k, L2, F5, q1, rfl, q3, q4⟩ | ⟨q1, rfl, q3, q4⟩)
    · have HX5 := Lib.hid (HX4.out.sp q4)
      have H5 := Lib.hid (And.intro q1 (And.intro q3 (HS4.out.trans q4)))
      have hk := put_lt q1
      have hi := Nat.lt_of_lt_of_le (put_lt H3.out.1) (put_pre q1).1.length_le
      have h0 : 0 < L2.length := by omega
      have HP := Lib.hid (And.intro q3 (And.intro h0 (And.intro hi hk)))
      clear q1 q3 q4 CN HX4 HS4 hk hi h0
      obtain ⟨c1, c2, c3⟩ := HX5.out.cells
      go_wp2_with fail
      refine (put_lower M _ B 1 _ 0 i _ HP.out.1 HP.out.2.1 HP.out.2.2.1).mono ?_
      rintro e W6 (⟨rs, L3, F6, q1, rfl, q3, q4⟩ | ⟨q1, rfl, F6, L6, q3, q4⟩)
      · have HE := Lib.hid (show MadeE w M F B low high (fun i _ => [fun _ => ⟨8, 0, 0, []⟩, fun r => ⟨3, i, r.getD 0 0, []⟩]) (fun r => .tuple #[.int .i64 ((r.getD 1 0 : Nat) : Int), .int .i64 ((0 : Nat) : Int), .int .i64 0]) (.returned ((fun r => .tuple #[.int .i64 ((r.getD 1 0 : Nat) : Int), .int .i64 ((0 : Nat) : Int), .int .i64 0]) rs)) W6 from .inl ⟨i, L1, k, L2, rs, L3, F6, H3.out.1, H5.out.1, q1, rfl, q3, H5.out.2.2.trans q4⟩)
        clear q1 q3 q4 c1 c2 c3
        go_wp2_with fail
        go_ret3
        exact HE.out
      · have HE := Lib.hid (show MadeE w M F B low high (fun i _ => [fun _ => ⟨8, 0, 0, []⟩, fun r => ⟨3, i, r.getD 0 0, []⟩]) (fun r => .tuple #[.int .i64 ((r.getD 1 0 : Nat) : Int), .int .i64 ((0 : Nat) : Int), .int .i64 0]) (.returned (.tuple #[.int .i64 0, .int .i64 0, .int .i64 171])) W6 from .inr ⟨.inr (.inr ⟨i, L1, k, L2, H3.out.1, H5.out.1, q1⟩), rfl, F6, H5.out.2.2.trans q4⟩)
        clear q1 q3 q4 c1 c2 c3
        go_wp2_with fail
        go_ret3
        exact HE.out
    · have HE := Lib.hid (show MadeE w M F B low high (fun i _ => [fun _ => ⟨8, 0, 0, []⟩, fun r => ⟨3, i, r.getD 0 0, []⟩]) (fun r => .tuple #[.int .i64 ((r.getD 1 0 : Nat) : Int), .int .i64 ((0 : Nat) : Int), .int .i64 0]) (.returned (.tuple #[.int .i64 0, .int .i64 0, .int .i64 171])) W5 from .inr ⟨.inr (.inl ⟨i, L1, H3.out.1, q1⟩), rfl, F3, HS4.out.trans q4⟩)
      clear q1 q3 q4 CN HX4 HS4
      go_wp2_with fail
      go_ret3
      exact HE.out
  · have HX3 := Lib.hid (HX2.out.sp q4)
    have H3 := Lib.hid (And.intro q1 (And.intro q3 (HS2.out.trans q4)))
    clear q1 q3 q4 CN HX2 HS2
    obtain ⟨c1, c2, c3⟩ := HX3.out.cells
    go_wp2_with fail
    refine (of_any high _ (by have := HB.out.1; omega) (by have := HB.out.1; omega)).mono ?_
    rintro e W4 ⟨⟨v, rfl, hv⟩, hb⟩
    have CN := Lib.hid ((num_ok M F1 B 1 [kPar] (decide (high < 0)) high.natAbs _ v W4 (H3.out.2.1.below hb) (small_lim high (by have := HB.out.1; omega) (by have := HB.out.1; omega)) (zneg_small high) hv).mono (fun e w' hh => show ∃ i no F5, e = .returned (.tuple #[.int .i64 i, .int .i64 no]) ∧ Sp F1 W4 F5 w' from by
      rcases hh with ⟨i, L', F', g1, g2, g3, g4⟩ | ⟨g1, g2, g3, g4⟩
      · exact ⟨_, _, F', g2, g4⟩
      · exact ⟨_, _, F1, g2, g4⟩))
    have HS4 := Lib.hid (H3.out.2.2.below hb)
    clear c1 c2 c3 hb hv HX3
    go_wp2_with fail
    refine CN.out.mono ?_
    rintro e W5 ⟨i5, no5, F5, rfl, q4⟩
    have HE := Lib.hid (show MadeE w M F B low high (fun i _ => [fun _ => ⟨8, 0, 0, []⟩, fun r => ⟨3, i, r.getD 0 0, []⟩]) (fun r => .tuple #[.int .i64 ((r.getD 1 0 : Nat) : Int), .int .i64 ((0 : Nat) : Int), .int .i64 0]) (.returned (.tuple #[.int .i64 0, .int .i64 0, .int .i64 171])) W5 from .inr ⟨.inl H3.out.1, rfl, F5, HS4.out.trans q4⟩)
    clear q4
    go_wp2_with fail
    go_ret3
    exact HE.out
set_option maxRecDepth 100000 in
set_option maxHeartbeats 4000000 in
theorem made_11 (M : Nat) (F : Nat → Prop) (B : Nat) (low high : Int) (which bl bh bw : Nat) (w : World) (h : Mkr w M F B 0 []) (hB : 1 ≤ B) (hr : -128 ≤ low ∧ low ≤ 127 ∧ -128 ≤ high ∧ high ≤ 127) (hx : Bx w F bl bh bw low high which) (hw : which < 256) (h1 : which % 2 = 1) (h2 : which / 2 % 2 = 1) :
    Calls Try.prog 5 #[.pointer (some ⟨M, 0, none⟩), .pointer (some ⟨bl, 0, none⟩), .pointer (some ⟨bh, 0, none⟩), .pointer (some ⟨bw, 0, none⟩)] w (MadeE w M F B low high (fun i k => fsBoth 0 i k) (fun r => .tuple #[.int .i64 ((r.getD 7 0 : Nat) : Int), .int .i64 ((r.getD 13 0 : Nat) : Int), .int .i64 0])) := by
  have w1 := IntWalk.i64_in low (by omega)
  have w2 := IntWalk.i64_in high (by omega)
  obtain ⟨qt, hq⟩ : ∃ q : Nat, which / 2 = q := ⟨_, rfl⟩
  have hqi : (which : Int) / 2 = (qt : Int) := by omega
  have hqt : Int.tdiv (which : Int) 2 = (qt : Int) := by rw [Int.tdiv_eq_ediv_of_nonneg (by omega)]; omega
  have hm1 : (which : Int) % 2 = 1 := by omega
  have hm1t : Int.tmod (which : Int) 2 = 1 := by rw [Int.tmod_eq_emod_of_nonneg (by omega)]; omega
  have hm2 : (qt : Int) % 2 = 1 := by omega
  have hm2t : Int.tmod (qt : Int) 2 = 1 := by rw [Int.tmod_eq_emod_of_nonneg (by omega)]; omega
  have hm3 : qt % 2 = 1 := by omega
  have HB := Lib.hid (And.intro hr hB)
  have CP := Lib.hid (par_ok M F B w h hB)
  have HX := Lib.hid hx
  obtain ⟨c1, c2, c3⟩ := hx.cells
  clear h hx
  go_enter Try.func5, Try.ntmps5
  go_wp2_with fail
  refine CP.out.mono ?_
  rintro e W1 ⟨F1, rfl, hm1', hs1⟩
  have HX1 := Lib.hid (HX.out.sp hs1)
  have HM1 := Lib.hid (And.intro hm1' hs1)
  clear c1 c2 c3 hm1' hs1 CP
  obtain ⟨c1, c2, c3⟩ := HX1.out.cells
  go_wp2_with fail
  refine (of_any low _ (by have := HB.out.1; omega) (by have := HB.out.1; omega)).mono ?_
  rintro e W2 ⟨⟨v, rfl, hv⟩, hb⟩
  have CN := Lib.hid (num_ok M F1 B 1 [kPar] (decide (low < 0)) low.natAbs _ v W2 (HM1.out.1.below hb) (small_lim low (by have := HB.out.1; omega) (by have := HB.out.1; omega)) (zneg_small low) hv)
  have HX2 := Lib.hid (HX1.out.below hb)
  have HS2 := Lib.hid (HM1.out.2.below hb)
  clear c1 c2 c3 hb hv HX1
  go_wp2_with fail
  refine CN.out.mono ?_
  rintro e W3 (⟨i, L1, F3, q1, rfl, q3, q4⟩ | ⟨q1, rfl, q3, q4⟩)
  · have HX3 := Lib.hid (HX2.out.sp q4)
    have H3 := Lib.hid (And.intro q1 (And.intro q3 (HS2.out.trans q4)))
    clear q1 q3 q4 CN HX2 HS2
    obtain ⟨c1, c2, c3⟩ := HX3.out.cells
    go_wp2_with fail
    refine (of_any high _ (by have := HB.out.1; omega) (by have := HB.out.1; omega)).mono ?_
    rintro e W4 ⟨⟨v, rfl, hv⟩, hb⟩
    have CN := Lib.hid (num_ok M F3 B 1 L1 (decide (high < 0)) high.natAbs _ v W4 (H3.out.2.1.below hb) (small_lim high (by have := HB.out.1; omega) (by have := HB.out.1; omega)) (zneg_small high) hv)
    have HX4 := Lib.hid (HX3.out.below hb)
    have HS4 := Lib.hid (H3.out.2.2.below hb)
    clear c1 c2 c3 hb hv HX3
    go_wp2_with fail
    refine CN.out.mono ?_
    rintro e W5 (⟨k, L2, F5, q1, rfl, q3, q4⟩ | ⟨q1, rfl, q3, q4⟩)
    · have HX5 := Lib.hid (HX4.out.sp q4)
      have H5 := Lib.hid (And.intro q1 (And.intro q3 (HS4.out.trans q4)))
      have hk := put_lt q1
      have hi := Nat.lt_of_lt_of_le (put_lt H3.out.1) (put_pre q1).1.length_le
      have h0 : 0 < L2.length := by omega
      have HP := Lib.hid (And.intro q3 (And.intro h0 (And.intro hi hk)))
      clear q1 q3 q4 CN HX4 HS4 hk hi h0
      obtain ⟨c1, c2, c3⟩ := HX5.out.cells
      go_wp2_with fail
      refine (put_both M _ B 1 _ 0 i k _ HP.out.1 HP.out.2.1 HP.out.2.2.1 HP.out.2.2.2).mono ?_
      rintro e W6 (⟨rs, L3, F6, q1, rfl, q3, q4⟩ | ⟨q1, rfl, F6, L6, q3, q4⟩)
      · have HE := Lib.hid (show MadeE w M F B low high (fun i k => fsBoth 0 i k) (fun r => .tuple #[.int .i64 ((r.getD 7 0 : Nat) : Int), .int .i64 ((r.getD 13 0 : Nat) : Int), .int .i64 0]) (.returned ((fun r => .tuple #[.int .i64 ((r.getD 7 0 : Nat) : Int), .int .i64 ((r.getD 13 0 : Nat) : Int), .int .i64 0]) rs)) W6 from .inl ⟨i, L1, k, L2, rs, L3, F6, H3.out.1, H5.out.1, q1, rfl, q3, H5.out.2.2.trans q4⟩)
        clear q1 q3 q4 c1 c2 c3
        go_wp2_with fail
        go_ret3
        exact HE.out
      · have HE := Lib.hid (show MadeE w M F B low high (fun i k => fsBoth 0 i k) (fun r => .tuple #[.int .i64 ((r.getD 7 0 : Nat) : Int), .int .i64 ((r.getD 13 0 : Nat) : Int), .int .i64 0]) (.returned (.tuple #[.int .i64 0, .int .i64 0, .int .i64 171])) W6 from .inr ⟨.inr (.inr ⟨i, L1, k, L2, H3.out.1, H5.out.1, q1⟩), rfl, F6, H5.out.2.2.trans q4⟩)
        clear q1 q3 q4 c1 c2 c3
        go_wp2_with fail
        go_ret3
        exact HE.out
    · have HE := Lib.hid (show MadeE w M F B low high (fun i k => fsBoth 0 i k) (fun r => .tuple #[.int .i64 ((r.getD 7 0 : Nat) : Int), .int .i64 ((r.getD 13 0 : Nat) : Int), .int .i64 0]) (.returned (.tuple #[.int .i64 0, .int .i64 0, .int .i64 171])) W5 from .inr ⟨.inr (.inl ⟨i, L1, H3.out.1, q1⟩), rfl, F3, HS4.out.trans q4⟩)
      clear q1 q3 q4 CN HX4 HS4
      go_wp2_with fail
      go_ret3
      exact HE.out
  · have HX3 := Lib.hid (HX2.out.sp q4)
    have H3 := Lib.hid (And.intro q1 (And.intro q3 (HS2.out.trans q4)))
    clear q1 q3 q4 CN HX2 HS2
    obtain ⟨c1, c2, c3⟩ := HX3.out.cells
    go_wp2_with fail
    refine (of_any high _ (by have := HB.out.1; omega) (by have := HB.out.1; omega)).mono ?_
    rintro e W4 ⟨⟨v, rfl, hv⟩, hb⟩
    have CN := Lib.hid ((num_ok M F1 B 1 [kPar] (decide (high < 0)) high.natAbs _ v W4 (H3.out.2.1.below hb) (small_lim high (by have := HB.out.1; omega) (by have := HB.out.1; omega)) (zneg_small high) hv).mono (fun e w' hh => show ∃ i no F5, e = .returned (.tuple #[.int .i64 i, .int .i64 no]) ∧ Sp F1 W4 F5 w' from by
      rcases hh with ⟨i, L', F', g1, g2, g3, g4⟩ | ⟨g1, g2, g3, g4⟩
      · exact ⟨_, _, F', g2, g4⟩
      · exact ⟨_, _, F1, g2, g4⟩))
    have HS4 := Lib.hid (H3.out.2.2.below hb)
    clear c1 c2 c3 hb hv HX3
    go_wp2_with fail
    refine CN.out.mono ?_
    rintro e W5 ⟨i5, no5, F5, rfl, q4⟩
    have HE := Lib.hid (show MadeE w M F B low high (fun i k => fsBoth 0 i k) (fun r => .tuple #[.int .i64 ((r.getD 7 0 : Nat) : Int), .int .i64 ((r.getD 13 0 : Nat) : Int), .int .i64 0]) (.returned (.tuple #[.int .i64 0, .int .i64 0, .int .i64 171])) W5 from .inr ⟨.inl H3.out.1, rfl, F5, HS4.out.trans q4⟩)
    clear q4
    go_wp2_with fail
    go_ret3
    exact HE.out
end Go.Proofs.Ytljgiagdmnedpaa.Tape_
