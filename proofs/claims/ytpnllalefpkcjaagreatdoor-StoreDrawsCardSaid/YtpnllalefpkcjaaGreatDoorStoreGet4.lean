/-
Contract of store.GetMark.
-/
import Derived.Test.YtpnllalefpkcjaaGreatDoorStoreMark
import Derived.Test.YtpnllalefpkcjaaGreatDoorStoreGet3
namespace Go.Proofs.YtpnllalefpkcjaaGreatDoor.Store
open Go.RowKit Nat_ Notch

def markL (n r : Nat) (l : List (Bool × Nat)) (t : ByteArray) : ByteArray :=
  Notch.encB [n] ++ Notch.encB [r] ++ txtB (Notch.encL l.length ++ l.flatMap fun z => Notch.encT (zdecs z.1 z.2)) ++ Notch.textB t
/-- The text and the error that PutMark tells, by signs and numbers alone. -/
def markW (n r : Nat) (l : List (Bool × Nat)) (t : ByteArray) : ByteArray × Int :=
  if ¬ (l.length ≤ 200 ∧ ∀ z ∈ l, nl z.2 ≤ 64) then (ByteArray.empty, 2)
  else if 65536 < (markL n r l t).size then (ByteArray.empty, 3)
  else (markL n r l t, 0)
theorem markV_eq (n r : Nat) (zs : List (Bool × Value × Nat)) (t : ByteArray) : markV n r zs t = .tuple #[.string (markW n r (zs.map fun z => (z.1, z.2.2)) t).1, .int .i64 (markW n r (zs.map fun z => (z.1, z.2.2)) t).2] := by
  have hm : mayB zs = false ↔ ¬ ((zs.map fun z => (z.1, z.2.2)).length ≤ 200 ∧ ∀ z ∈ (zs.map fun z => (z.1, z.2.2)), nl z.2 ≤ 64) := by
    rw [← Bool.not_eq_true]
    refine not_congr ?_
    unfold mayB
    rw [Bool.and_eq_true, List.all_eq_true, decide_eq_true_iff, List.length_map]
    refine and_congr Iff.rfl ?_
    constructor
    · intro h z hz
      obtain ⟨y, hy, rfl⟩ := List.mem_map.1 hz
      exact of_decide_eq_true (h y hy)
    · intro h z hz
      exact decide_eq_true (h (z.1, z.2.2) (List.mem_map.2 ⟨z, hz, rfl⟩))
  unfold markV markW
  have hb : markB n r zs t = markL n r (zs.map fun z => (z.1, z.2.2)) t := by
    unfold markB markL
    rw [placeL_map]
  rw [hb]
  by_cases hc : mayB zs = false
  · rw [if_pos hc, if_pos (hm.1 hc)]
  · rw [if_neg hc, if_neg (fun h => hc (hm.2 h))]
    unfold toldV
    split <;> rfl
theorem markW_err (n r : Nat) (l : List (Bool × Nat)) (t : ByteArray) : (markW n r l t).2 = 0 ∨ (markW n r l t).2 = 2 ∨ (markW n r l t).2 = 3 := by
  unfold markW
  split
  · exact .inr (.inl rfl)
  split
  · exact .inr (.inr rfl)
  · exact .inl rfl
theorem placeF_bd : ∀ (n : Nat) (s : ByteArray) (b : Bool), (placeF n s b).2.1.size ≤ s.size
  | 0, s, b => Nat.le_refl _
  | n + 1, s, true => by rw [placeF_bad]; exact Nat.le_refl _
  | n + 1, s, false => by
    rw [placeF_succ]
    exact Nat.le_trans (placeF_bd n _ _) (textR_bd s false 65536).2
theorem placeR_bd (s : ByteArray) (b : Bool) : (placeR s b).2.1.size ≤ s.size := by
  unfold placeR
  split
  · exact (numR_bd s b).2
  · exact Nat.le_trans (placeF_bd _ _ _) (numR_bd s b).2
/-- What GetMark reads: two numbers, a place, a text. -/
def readM (s : ByteArray) : Nat × Nat × List (Bool × Nat) × ByteArray :=
  ((numR s false).1, (numR (numR s false).2.1 (numR s false).2.2).1, (placeR (numR (numR s false).2.1 (numR s false).2.2).2.1 (numR (numR s false).2.1 (numR s false).2.2).2.2).1,
    (textR (placeR (numR (numR s false).2.1 (numR s false).2.2).2.1 (numR (numR s false).2.1 (numR s false).2.2).2.2).2.1 (placeR (numR (numR s false).2.1 (numR s false).2.2).2.1 (numR (numR s false).2.1 (numR s false).2.2).2.2).2.2 65536).1)
/-- What GetMark tells. -/
def GetM (B : Nat) (w' : World) (q : Nat × Nat × List (Bool × Nat) × ByteArray) (s : ByteArray) (e : Ending) : Prop :=
  (markW q.1 q.2.1 q.2.2.1 q.2.2.2 = (s, 0) ∧ ∃ v zs, e = .returned (.tuple #[.agg #[.int .u64 (q.1 : Int), .int .u64 (q.2.1 : Int), v, .string q.2.2.2], .int .i64 0]) ∧
    w'.ownsRow B 47 2 v zs.length (flatZ zs) ∧ (∀ z ∈ zs, NN B w' z.2.1 z.2.2) ∧ zs.map (fun z => (z.1, z.2.2)) = q.2.2.1 ∧ zs.length ≤ 200) ∨
  (markW q.1 q.2.1 q.2.2.1 q.2.2.2 ≠ (s, 0) ∧ e = .returned (.tuple #[.agg #[.int .u64 0, .int .u64 0, .slice none 0 0, .string ByteArray.empty], .int .i64 5]))
/-- What GetMark's region keeps. -/
def StM (w : World) (A X g : Nat) (W : World) : Prop :=
  W.cell? ⟨X, 0, none⟩ = some (.pointer (some ⟨g, 0, none⟩)) ∧ Blk W A 28 [.int .u64 0, .int .u64 0, .slice none 0 0, .string ⟨#[]⟩] ∧ Blk W X 66 [.pointer (some ⟨g, 0, none⟩)] ∧ Below w.heap.size w W
theorem StM.mk' {w : World} {A X g : Nat} {W : World} (h1 : Blk W A 28 [.int .u64 0, .int .u64 0, .slice none 0 0, .string ⟨#[]⟩]) (h2 : Blk W X 66 [.pointer (some ⟨g, 0, none⟩)]) (h3 : Below w.heap.size w W) : StM w A X g W := ⟨h2.cell 0, h1, h2, h3⟩
theorem StM.drew {w : World} {A X g : Nat} {W : World} (h : StM w A X g W) : StM w A X g W.drew := ⟨h.1, h.2.1, h.2.2.1, h.2.2.2.drew⟩
theorem StM.al {w : World} {A X g : Nat} {W : World} (h : StM w A X g W) (o : Obj) : StM w A X g (W.alloc o) := .mk' (h.2.1.alloc o) (h.2.2.1.alloc o) (below_al h.2.2.2 o)
theorem StM.gr {w : World} {A X g : Nat} {W W' : World} (h : StM w A X g W) (hA : A < g) (hX : g < X) (hw : w.heap.size ≤ g) (hg : W.grownBy W' (some g)) : StM w A X g W' :=
  .mk' (h.2.1.grown hg (by intro e; injection e with e; omega)) (h.2.2.1.grown hg (by intro e; injection e with e; omega)) (below_grown h.2.2.2 hg h.2.2.2.size hw)
theorem StM.st {w : World} {A X g : Nat} {W : World} (h : StM w A X g W) (hA : A < X) (hw : w.heap.size ≤ X) (D : Nat) (hD : X < D) (i : Nat) (v : Value) : StM w A X g (W.setCell ⟨D, i, none⟩ v) :=
  .mk' (h.2.1.far (by show A ≠ D; omega) v) (h.2.2.1.far (by show X ≠ D; omega) v) (h.2.2.2.setCell (p := ⟨D, i, none⟩) (by show w.heap.size ≤ D; omega) v)
/-- A mark of zeros at D, in cells. -/
def ZeroM (D : Nat) (W : World) : Prop := Blk W D 28 [.int .u64 0, .int .u64 0, .slice none 0 0, .string ⟨#[]⟩]
theorem ZeroM.gr {D g : Nat} {W W' : World} (h : ZeroM D W) (hg : W.grownBy W' (some g)) (hD : g < D) : ZeroM D W' := Blk.grown h hg (by intro e; injection e with e; omega)
theorem ZeroM.cells {D : Nat} {W : World} (h : ZeroM D W) : W.cell? ⟨D, 0, none⟩ = some (.int .u64 0) ∧ W.cell? ⟨D, 1, none⟩ = some (.int .u64 0) ∧ W.cell? ⟨D, 2, none⟩ = some (.slice none 0 0) ∧ W.cell? ⟨D, 3, none⟩ = some (.string ⟨#[]⟩) ∧
    W.frozen? ⟨D, 0, none⟩ = false ∧ W.frozen? ⟨D, 1, none⟩ = false ∧ W.frozen? ⟨D, 2, none⟩ = false ∧ W.frozen? ⟨D, 3, none⟩ = false ∧ D < W.heap.size :=
  ⟨Blk.cell h 0, Blk.cell h 1, Blk.cell h 2, Blk.cell h 3, Blk.frozen h 0 (by simp), Blk.frozen h 1 (by simp), Blk.frozen h 2 (by simp), Blk.frozen h 3 (by simp), Blk.lt h⟩
theorem ZeroM.new (W : World) : ZeroM W.heap.size (W.alloc (.cells #[.int .u64 0, .int .u64 0, .slice none 0 0, .string ⟨#[]⟩] 28)) := Blk.new W _ [_, _, _, _]
theorem ZeroM.newD (W : World) : ZeroM W.heap.size (W.alloc (.cells #[.int .u64 0, .int .u64 0, .slice none 0 0, .string ⟨#[]⟩] 28)).drew := Blk.drew (Blk.new W _ [_, _, _, _])
theorem rdr_drew {W : World} {g : Nat} {s : ByteArray} {b : Bool} (h : Rdr W g s b) : Rdr W.drew g s b := Blk.drew h
theorem rdr_al {W : World} {g : Nat} {s : ByteArray} {b : Bool} (h : Rdr W g s b) (o : Obj) : Rdr (W.alloc o) g s b := Blk.alloc h o
set_option maxRecDepth 100000 in
set_option maxHeartbeats 8000000 in
theorem getMark_any (s : ByteArray) (w : World) (hs : s.size ≤ 1000000) :
    Calls Tryz.prog 12 #[.string s] w fun e w' => GetM w.heap.size w' (readM s) s e ∧ Below w.heap.size w w' := by
  obtain ⟨w1, hw1⟩ : ∃ w1, w.alloc (.cells #[.int .u64 0, .int .u64 0, .slice none 0 0, .string ⟨#[]⟩] 28) = w1 := ⟨_, rfl⟩
  have hB1 : Below w.heap.size w w1 := by rw [← hw1]; exact (Below.refl _ _).alloc (Nat.le_refl _) _
  have k1 : Blk w1 w.heap.size 28 [.int .u64 0, .int .u64 0, .slice none 0 0, .string ⟨#[]⟩] := by rw [← hw1]; exact Blk.new _ _ [_, _, _, _]
  have hopen := open_new s w1
  have k1lt := k1.lt
  have hbd := numR_bd s false
  have hnum := fun g w h => num_any g s false w (by unfold maxLen; omega) h
  unfold readM
  generalize numR s false = nr1 at *
  obtain ⟨n, s1, b1⟩ := nr1
  simp only [] at hbd hnum ⊢
  have hbd2 := numR_bd s1 b1
  have hs1 : s1.size ≤ 1000000 := by omega
  have hnum2 := fun g w h => num_any g s1 b1 w (by unfold maxLen; omega) h
  generalize numR s1 b1 = nr2 at *
  obtain ⟨r, s2, b2⟩ := nr2
  simp only [] at hbd2 hnum2 ⊢
  have hs2 : s2.size ≤ 1000000 := by omega
  have hplace := fun g w h => getPlace_any g s2 b2 w hs2 h
  have hps := placeR_bd s2 b2
  generalize placeR s2 b2 = pr at *
  obtain ⟨l, s3, b3⟩ := pr
  simp only [] at hplace hps ⊢
  have hs3 : s3.size ≤ 1000000 := by omega
  have htext := fun g w h => text_any g s3 b3 65536 w (by unfold maxLen; omega) (by omega) (by omega) h
  generalize textR s3 b3 65536 = tr at *
  obtain ⟨t, s4, b4⟩ := tr
  simp only [] at htext ⊢
  have hn : n < 18446744073709551616 := hbd.1
  have hr : r < 18446744073709551616 := hbd2.1
  have hdr := fun (zs : List (Bool × Value × Nat)) (h : zs.map (fun z => (z.1, z.2.2)) = l) => (show markV n r zs t = .tuple #[.string (markW n r l t).1, .int .i64 (markW n r l t).2] by rw [← h]; exact markV_eq n r zs t)
  have herr := markW_err n r l t
  have hGM : ∀ e w', GetM w.heap.size w' (n, r, l, t) s e ↔ (markW n r l t = (s, 0) ∧ ∃ v zs, e = .returned (.tuple #[.agg #[.int .u64 (n : Int), .int .u64 (r : Int), v, .string t], .int .i64 0]) ∧
    w'.ownsRow w.heap.size 47 2 v zs.length (flatZ zs) ∧ (∀ z ∈ zs, NN w.heap.size w' z.2.1 z.2.2) ∧ zs.map (fun z => (z.1, z.2.2)) = l ∧ zs.length ≤ 200) ∨
    (markW n r l t ≠ (s, 0) ∧ e = .returned (.tuple #[.agg #[.int .u64 0, .int .u64 0, .slice none 0 0, .string ByteArray.empty], .int .i64 5])) := fun e w' => Iff.rfl
  generalize markW n r l t = dw at *
  obtain ⟨T, E⟩ := dw
  simp only [] at herr hdr
  have HO := Lib.hid hopen
  have HN := Lib.hid hnum
  have HN2 := Lib.hid hnum2
  have HG := Lib.hid hGM
  have HP := Lib.hid hplace
  have HT := Lib.hid htext
  have HD := Lib.hid hdr
  have HW1 := Lib.hid hB1
  have HNR := Lib.hid (And.intro hn hr)
  clear hopen hnum hnum2 hGM hplace htext hdr hbd hbd2 hB1 hn hr hps
  obtain ⟨A, hA⟩ : ∃ A, w.heap.size = A := ⟨_, rfl⟩
  rw [hA] at k1 k1lt
  go_enter Tryz.func12, Tryz.ntmps12
  go_wp2_with fail
  refine HO.out.mono ?_
  rintro e w2 ⟨rfl, hr2, hlt2, hb2⟩
  obtain ⟨g, hg⟩ : ∃ g, w1.heap.size = g := ⟨_, rfl⟩
  rw [hg] at hr2 hlt2 k1lt ⊢
  have HGE := Lib.hid hg
  have hk2 := k1.below hb2 k1.lt
  have hr3 : Rdr (w2.alloc (.cells #[.pointer (some ⟨g, 0, none⟩)] 66)) g s false := Blk.alloc hr2 _
  have hk3 := hk2.alloc (.cells #[.pointer (some ⟨g, 0, none⟩)] 66)
  have hx3 : Blk (w2.alloc (.cells #[.pointer (some ⟨g, 0, none⟩)] 66)) w2.heap.size 66 [.pointer (some ⟨g, 0, none⟩)] := Blk.new w2 _ [_]
  have hb3 : Below w.heap.size w (w2.alloc (.cells #[.pointer (some ⟨g, 0, none⟩)] 66)) := ((HW1.out.trans (hb2.mono (by rw [HGE.out]; omega))).alloc (by omega) _)
  clear hg hw1 hb2 hr2 k1 hk2
  obtain ⟨X, hX⟩ : ∃ X, w2.heap.size = X := ⟨_, rfl⟩
  obtain ⟨w3, hw3⟩ : ∃ w3, w2.alloc (.cells #[.pointer (some ⟨g, 0, none⟩)] 66) = w3 := ⟨_, rfl⟩
  have hw3s : X < w3.heap.size := by rw [← hw3, ← hX]; simp
  rw [hX] at hx3 hlt2
  rw [hw3] at hr3 hk3 hx3 hb3
  have hgA : A < g := k1lt
  have hgX : g < X := hlt2
  have hwg : w.heap.size ≤ g := by omega
  have hS3 : StM w A X g w3 := .mk' hk3 hx3 hb3
  have hx3c := hx3.cell 0
  have hx3f := hx3.frozen 0 (by simp)
  simp only [List.getElem?_cons_zero] at hx3c
  have SG := Lib.hid (fun W W' (h : StM w A X g W) (hg : W.grownBy W' (some g)) => h.gr hgA hgX hwg hg)
  have SD := Lib.hid (fun W (h : StM w A X g W) => h.drew)
  have SA := Lib.hid (fun W o (h : StM w A X g W) => h.al o)
  have HS3 := Lib.hid hS3
  have hX3 : X < w3.heap.size := hx3.lt
  have ST := Lib.hid (fun W (h : StM w A X g W) D (hD : X < D) i v => h.st (by omega) (by omega) D hD i v)
  have HR3 := Lib.hid hr3
  clear hS3 hr3 hk3 hx3 hb3
  go_wp2_with fail
  go_region_held3 (fun W => W.cell? ⟨X, 0, none⟩ = some (.pointer (some ⟨g, 0, none⟩)) ∧ StM w A X g W)
    ((refine (fun (h : StM w A X g _) => ⟨h.1, h⟩) ?_; with_reducible first | assumption | (exact (SD.out _ HS3.out)) | (exact (SD.out _ (SA.out _ _ HS3.out))) | (exact (SA.out _ _ (by assumption))) | (exact ST.out _ (ST.out _ (ST.out _ (ST.out _ hS5 _ hX4 _ _) _ hX4 _ _) _ hX4 _ _) _ hX4 _ _) | (exact ST.out _ (ST.out _ (ST.out _ (ST.out _ hS5 _ hX3 _ _) _ hX3 _ _) _ hX3 _ _) _ hX3 _ _) ))
    (first
    | (go_at_call 28; (with_reducible refine (HN.out g _ (by first | (exact rdr_drew HR3.out) | (exact (rdr_drew (rdr_al HR3.out _))))).mono ?_); rintro e w4 ⟨rfl, hr4, hg4⟩; have hS4 : StM w A X g w4 := SG.out _ _ (by first | (exact (SD.out _ HS3.out)) | (exact (SD.out _ (SA.out _ _ HS3.out)))) hg4; have hX4 : X < w4.heap.size := hS4.2.2.1.lt; (first | (have hZ4 : ZeroM w3.heap.size w4 := ZeroM.gr (ZeroM.newD w3) hg4 (Nat.lt_trans hgX hX3)) | skip))
    | (go_at_call 28; (with_reducible refine (HN2.out g _ (by first | assumption | (exact rdr_al (by assumption) _))).mono ?_); rintro e w5 ⟨rfl, hr5, hg5⟩; have hS5 : StM w A X g w5 := SG.out _ _ (by first | assumption | (exact SA.out _ _ (by assumption))) hg5; (first | (have hZ5 := ZeroM.gr hZ4 hg5 (Nat.lt_trans hgX hX3); obtain ⟨z0, z1, z2, z3, z4, z5, z6, z7, z8⟩ := ZeroM.cells hZ5) | (have hZ5 := ZeroM.gr (ZeroM.new w4) hg5 (Nat.lt_trans hgX hX4); obtain ⟨z0, z1, z2, z3, z4, z5, z6, z7, z8⟩ := ZeroM.cells hZ5) | skip))
    | fail)
  have hXD : X < w5.heap.size := hS5.2.2.1.lt
  have hMk := Blk.new w5 28 [.int .u64 (n : Int), .int .u64 (r : Int), .slice none 0 0, .string ⟨#[]⟩]
  have hRd := rdr_al hr5 (.cells #[.int .u64 (n : Int), .int .u64 (r : Int), .slice none 0 0, .string ⟨#[]⟩] 28)
  have hSt := SA.out _ (.cells #[.int .u64 (n : Int), .int .u64 (r : Int), .slice none 0 0, .string ⟨#[]⟩] 28) hS5
  clear hS5 hr5 hg5
  generalize hWW : w5.alloc _ = W at hMk hRd hSt ⊢
  clear hWW
  generalize w5.heap.size = D at hMk hXD ⊢
  rotate_left
  have hXD : X < w4.heap.size := hX4
  have hMk : Blk ((((w5.setCell ⟨w4.heap.size, 0, none⟩ (.int .u64 (n : Int))).setCell ⟨w4.heap.size, 1, none⟩ (.int .u64 (r : Int))).setCell ⟨w4.heap.size, 2, none⟩ (.slice none 0 0)).setCell ⟨w4.heap.size, 3, none⟩ (.string ⟨#[]⟩)) w4.heap.size 28 [.int .u64 (n : Int), .int .u64 (r : Int), .slice none 0 0, .string ⟨#[]⟩] := (((Blk.set_ hZ5 0 _).set_ 1 _).set_ 2 _).set_ 3 _
  have hRd : Rdr ((((w5.setCell ⟨w4.heap.size, 0, none⟩ (.int .u64 (n : Int))).setCell ⟨w4.heap.size, 1, none⟩ (.int .u64 (r : Int))).setCell ⟨w4.heap.size, 2, none⟩ (.slice none 0 0)).setCell ⟨w4.heap.size, 3, none⟩ (.string ⟨#[]⟩)) g s2 b2 := Blk.far (Blk.far (Blk.far (Blk.far hr5 (by show g ≠ w4.heap.size; omega) _) (by show g ≠ w4.heap.size; omega) _) (by show g ≠ w4.heap.size; omega) _) (by show g ≠ w4.heap.size; omega) _
  have hSt : StM w A X g ((((w5.setCell ⟨w4.heap.size, 0, none⟩ (.int .u64 (n : Int))).setCell ⟨w4.heap.size, 1, none⟩ (.int .u64 (r : Int))).setCell ⟨w4.heap.size, 2, none⟩ (.slice none 0 0)).setCell ⟨w4.heap.size, 3, none⟩ (.string ⟨#[]⟩)) := ST.out _ (ST.out _ (ST.out _ (ST.out _ hS5 _ hXD _ _) _ hXD _ _) _ hXD _ _) _ hXD _ _
  clear z0 z1 z2 z3 z4 z5 z6 z7 z8 hZ5 hS5 hr5 hg5
  generalize ((((w5.setCell ⟨w4.heap.size, 0, none⟩ (.int .u64 (n : Int))).setCell ⟨w4.heap.size, 1, none⟩ (.int .u64 (r : Int))).setCell ⟨w4.heap.size, 2, none⟩ (.slice none 0 0)).setCell ⟨w4.heap.size, 3, none⟩ (.string ⟨#[]⟩)) = W at hMk hRd hSt ⊢
  generalize w4.heap.size = D at hMk hXD ⊢
  rotate_left
  have hXD : X < w3.heap.size := hX3
  have hMk : Blk ((((w5.setCell ⟨w3.heap.size, 0, none⟩ (.int .u64 (n : Int))).setCell ⟨w3.heap.size, 1, none⟩ (.int .u64 (r : Int))).setCell ⟨w3.heap.size, 2, none⟩ (.slice none 0 0)).setCell ⟨w3.heap.size, 3, none⟩ (.string ⟨#[]⟩)) w3.heap.size 28 [.int .u64 (n : Int), .int .u64 (r : Int), .slice none 0 0, .string ⟨#[]⟩] := (((Blk.set_ hZ5 0 _).set_ 1 _).set_ 2 _).set_ 3 _
  have hRd : Rdr ((((w5.setCell ⟨w3.heap.size, 0, none⟩ (.int .u64 (n : Int))).setCell ⟨w3.heap.size, 1, none⟩ (.int .u64 (r : Int))).setCell ⟨w3.heap.size, 2, none⟩ (.slice none 0 0)).setCell ⟨w3.heap.size, 3, none⟩ (.string ⟨#[]⟩)) g s2 b2 := Blk.far (Blk.far (Blk.far (Blk.far hr5 (by show g ≠ w3.heap.size; omega) _) (by show g ≠ w3.heap.size; omega) _) (by show g ≠ w3.heap.size; omega) _) (by show g ≠ w3.heap.size; omega) _
  have hSt : StM w A X g ((((w5.setCell ⟨w3.heap.size, 0, none⟩ (.int .u64 (n : Int))).setCell ⟨w3.heap.size, 1, none⟩ (.int .u64 (r : Int))).setCell ⟨w3.heap.size, 2, none⟩ (.slice none 0 0)).setCell ⟨w3.heap.size, 3, none⟩ (.string ⟨#[]⟩)) := ST.out _ (ST.out _ (ST.out _ (ST.out _ hS5 _ hXD _ _) _ hXD _ _) _ hXD _ _) _ hXD _ _
  clear z0 z1 z2 z3 z4 z5 z6 z7 z8 hZ5 hS5 hr5 hg5
  generalize ((((w5.setCell ⟨w3.heap.size, 0, none⟩ (.int .u64 (n : Int))).setCell ⟨w3.heap.size, 1, none⟩ (.int .u64 (r : Int))).setCell ⟨w3.heap.size, 2, none⟩ (.slice none 0 0)).setCell ⟨w3.heap.size, 3, none⟩ (.string ⟨#[]⟩)) = W at hMk hRd hSt ⊢
  generalize w3.heap.size = D at hMk hXD ⊢
  rotate_left
  all_goals (
    obtain ⟨-, hkA, hkX, hbW⟩ := hSt
    have hDlt := hMk.lt
    have hxc := hkX.cell 0
    simp only [List.getElem?_cons_zero] at hxc
    go_wp2_with fail
    refine (HP.out g W hRd).mono ?_
    rintro e w6 ⟨v, zs, rfl, hrow, hz, hzm, hzl, hr6, hg6⟩
    obtain ⟨qa, qc, rfl⟩ := own_slice hrow
    have hgD : D ≠ g := by omega
    have hd6 := Blk.grown hMk hg6 (by intro e; injection e with e; omega)
    have hk6 := Blk.grown hkA hg6 (by intro e; injection e with e; omega)
    have hx6 := Blk.grown hkX hg6 (by intro e; injection e with e; omega)
    have hb6 : Below w.heap.size w w6 := below_grown hbW hg6 (hbW.size) (by omega)
    have hsz6 := hg6.size
    have hlt6 : D < w6.heap.size := by omega
    obtain ⟨w7, hw7⟩ : ∃ w7, w6.setCell ⟨D, 2, none⟩ (.slice qa zs.length qc) = w7 := ⟨_, rfl⟩
    have hd7 : Blk w7 D 28 [.int .u64 (n : Int), .int .u64 (r : Int), .slice qa zs.length qc, .string ⟨#[]⟩] := by rw [← hw7]; exact hd6.set_ 2 _
    have hk7 : Blk w7 A 28 [.int .u64 0, .int .u64 0, .slice none 0 0, .string ⟨#[]⟩] := by rw [← hw7]; exact hk6.far (by show A ≠ D; omega) _
    have hx7 : Blk w7 X 66 [.pointer (some ⟨g, 0, none⟩)] := by rw [← hw7]; exact hx6.far (by show X ≠ D; omega) _
    have hr7 : Rdr w7 g s3 b3 := by rw [← hw7]; exact Blk.far hr6 (by show g ≠ D; omega) _
    have hb7 : Below w.heap.size w w7 := by rw [← hw7]; exact hb6.setCell (p := ⟨D, 2, none⟩) (by show w.heap.size ≤ D; omega) _
    have hrow7 : w7.ownsRow W.heap.size 47 2 (.slice qa zs.length qc) zs.length (flatZ zs) := by rw [← hw7]; exact own_set2 hrow D 2 _ hDlt
    have hz7 : ∀ z ∈ zs, NN W.heap.size w7 z.2.1 z.2.2 := by rw [← hw7]; exact fun z h => NN.grown (hz z h) (grown_set w6 D 2 _) hDlt
    have hlt7 : D < w7.heap.size := hd7.lt
    have u2 := hd6.cell 2
    have v2 := hd6.frozen 2 (by simp)
    have hx7c := hx7.cell 0
    simp only [List.getElem?_cons_zero, List.getElem?_cons_succ] at u2 hx7c
    have HZ7 := Lib.hid (And.intro hz7 hzm)
    clear hz7 hzm hz hrow hr6 hg6 hb6 hk6 hx6 hd6 hxc hkA hkX hbW hMk hRd
    go_wp2_with fail
    refine (HT.out g w7 hr7).mono ?_
    rintro e w8 ⟨rfl, hr8, hg8⟩
    have hd8 := Blk.grown hd7 hg8 (by intro e; injection e with e; omega)
    have hk8 := Blk.grown hk7 hg8 (by intro e; injection e with e; omega)
    have hb8 : Below w.heap.size w w8 := below_grown hb7 hg8 hb7.size (by omega)
    have hWs : W.heap.size ≤ w7.heap.size := by rw [← hw7]; simpa [World.setCell] using hsz6
    have hgW : g < W.heap.size := by omega
    have hrow8 := own_grown hrow7 hg8 hgW
    have hsz8 := hg8.size
    have hlt8 : D < w8.heap.size := by omega
    obtain ⟨w9, hw9⟩ : ∃ w9, w8.setCell ⟨D, 3, none⟩ (.string t) = w9 := ⟨_, rfl⟩
    have hd9 : Blk w9 D 28 [.int .u64 (n : Int), .int .u64 (r : Int), .slice qa zs.length qc, .string t] := by rw [← hw9]; exact hd8.set_ 3 _
    have hk9 : Blk w9 A 28 [.int .u64 0, .int .u64 0, .slice none 0 0, .string ⟨#[]⟩] := by rw [← hw9]; exact hk8.far (by show A ≠ D; omega) _
    have hb9 : Below w.heap.size w w9 := by rw [← hw9]; exact hb8.setCell (p := ⟨D, 3, none⟩) (by show w.heap.size ≤ D; omega) _
    have u3 := hd8.cell 3
    have v3 := hd8.frozen 3 (by simp)
    have e0 := hd9.cell 0
    have e1 := hd9.cell 1
    have e2 := hd9.cell 2
    have e3 := hd9.cell 3
    have hlt9 := hd9.lt
    simp only [List.getElem?_cons_zero, List.getElem?_cons_succ] at u3 e0 e1 e2 e3
    have hrow9 : w9.ownsRow W.heap.size 47 2 (.slice qa zs.length qc) zs.length (flatZ zs) := by rw [← hw9]; exact own_set2 hrow8 D 3 _ hDlt
    have hz9 : ∀ z ∈ zs, NN W.heap.size w9 z.2.1 z.2.2 := by rw [← hw9]; exact fun z h => NN.grown (NN.grown (HZ7.out.1 z h) hg8 hgW) (grown_set w8 D 3 _) hDlt
    have hZs : Zs w9 qa zs.length zs := by
      obtain ⟨a, c, he, hZ⟩ := zs_row hrow9 hz9
      obtain ⟨rfl, rfl⟩ : qa = a ∧ qc = c := by simpa using he
      exact hZ
    have hput := putMark_any n r qa zs.length qc zs t w9 HNR.out.1 HNR.out.2 hZs (by omega)
    rw [HD.out zs HZ7.out.2] at hput
    have HPUT := Lib.hid hput
    have HZ9 := Lib.hid hz9
    clear hz9 hput hZs hrow8 hrow7 hb8 hb7 hk8 hk7 hd8 hd7 hr8 hr7 hg8 hx7 hx7c u2 v2
    go_wp2_with fail
    refine HPUT.out.mono ?_
    rintro e w10 ⟨rfl, hb10⟩
    have hd10 := hd9.below hb10 hlt9
    have hk10 := hk9.below hb10 (by have := hk9.lt; omega)
    have hbw10 : Below w.heap.size w w10 := hb9.trans (hb10.mono hb9.size)
    have hrow10 := own_below hrow9 hb10
    have HZ10 := Lib.hid (fun z h => (HZ9.out z h).below hb10)
    have f0 := hd10.cell 0
    have f1 := hd10.cell 1
    have f2 := hd10.cell 2
    have f3 := hd10.cell 3
    have q0 := hk10.frozen 0 (by simp)
    have q1 := hk10.frozen 1 (by simp)
    have q2 := hk10.frozen 2 (by simp)
    have q3 := hk10.frozen 3 (by simp)
    have p0 := hk10.cell 0
    have p1 := hk10.cell 1
    have p2 := hk10.cell 2
    have p3 := hk10.cell 3
    have hlt10 := hd10.lt
    have hltA := hk10.lt
    simp only [List.getElem?_cons_zero, List.getElem?_cons_succ] at f0 f1 f2 f3 p0 p1 p2 p3
    have hkF := (((hk10.set_ 0 (.int .u64 0)).set_ 1 (.int .u64 0)).set_ 2 (.slice none 0 0)).set_ 3 (.string ⟨#[]⟩)
    have hkG := (((hk10.set_ 0 (.int .u64 (n : Int))).set_ 1 (.int .u64 (r : Int))).set_ 2 (.slice qa zs.length qc)).set_ 3 (.string t)
    have x0 := hkF.cell 0
    have x1 := hkF.cell 1
    have x2 := hkF.cell 2
    have x3 := hkF.cell 3
    have y0 := hkG.cell 0
    have y1 := hkG.cell 1
    have y2 := hkG.cell 2
    have y3 := hkG.cell 3
    simp only [List.set_cons_zero, List.set_cons_succ, List.getElem?_cons_zero, List.getElem?_cons_succ] at x0 x1 x2 x3 y0 y1 y2 y3
    have hwA : w.heap.size ≤ A := by omega
    have hbF : ∀ a b c d : Value, Below w.heap.size w ((((w10.setCell ⟨A, 0, none⟩ a).setCell ⟨A, 1, none⟩ b).setCell ⟨A, 2, none⟩ c).setCell ⟨A, 3, none⟩ d) := fun a b c d => (((hbw10.setCell (p := ⟨A, 0, none⟩) hwA a).setCell (p := ⟨A, 1, none⟩) hwA b).setCell (p := ⟨A, 2, none⟩) hwA c).setCell (p := ⟨A, 3, none⟩) hwA d
    have hgood : GetM w.heap.size ((((w10.setCell ⟨A, 0, none⟩ (.int .u64 (n : Int))).setCell ⟨A, 1, none⟩ (.int .u64 (r : Int))).setCell ⟨A, 2, none⟩ (.slice qa zs.length qc)).setCell ⟨A, 3, none⟩ (.string t)) (n, r, l, t) s (.returned (.tuple #[.agg #[.int .u64 (n : Int), .int .u64 (r : Int), .slice qa zs.length qc, .string t], .int .i64 0])) ∨ (T, E) ≠ (s, (0 : Int)) := by
      by_cases h : (T, E) = (s, (0 : Int))
      · refine .inl ((HG.out _ _).2 (.inl ⟨h, _, zs, rfl, ?_, ?_, HZ7.out.2, hzl⟩))
        · exact own_ge (own_set2 (own_set2 (own_set2 (own_set2 hrow10 A 0 _ (by omega)) A 1 _ (by omega)) A 2 _ (by omega)) A 3 _ (by omega)) (by omega)
        · intro z hz
          exact (NN.grown (NN.grown (NN.grown (NN.grown (HZ10.out z hz) (grown_set w10 A 0 _) (by omega)) (grown_set _ A 1 _) (by omega)) (grown_set _ A 2 _) (by omega)) (grown_set _ A 3 _) (by omega)).ge (by omega)
      · exact .inr h
    have hno : (T, E) ≠ (s, (0 : Int)) → GetM w.heap.size ((((w10.setCell ⟨A, 0, none⟩ (.int .u64 0)).setCell ⟨A, 1, none⟩ (.int .u64 0)).setCell ⟨A, 2, none⟩ (.slice none 0 0)).setCell ⟨A, 3, none⟩ (.string ⟨#[]⟩)) (n, r, l, t) s (.returned (.tuple #[.agg #[.int .u64 0, .int .u64 0, .slice none 0 0, .string ⟨#[]⟩], .int .i64 5])) := fun h => (HG.out _ _).2 (.inr ⟨h, rfl⟩)
    have FX := Lib.hid (And.intro x0 (And.intro x1 (And.intro x2 x3)))
    have FY := Lib.hid (And.intro y0 (And.intro y1 (And.intro y2 y3)))
    have FB := Lib.hid hbF
    have FG := Lib.hid hgood
    have FN := Lib.hid hno
    clear x0 x1 x2 x3 y0 y1 y2 y3 hbF hgood hno hkF hkG hd10 hk10 hbw10 hrow10 hb10 hd9 hk9 hb9 hrow9
    by_cases hTs : T = s
    · rcases herr with rfl | rfl | rfl
      · subst hTs
        go_wp2_with fail
        exact bodyPost_ret (v := (.tuple #[.agg #[.int .u64 (n : Int), .int .u64 (r : Int), .slice qa zs.length qc, .string t], .int .i64 0])) (by simp [results, Tryz.results12, go_sem, FY.out.1, FY.out.2.1, FY.out.2.2.1, FY.out.2.2.2]) rfl ⟨FG.out.resolve_right (by simp), FB.out _ _ _ _⟩
      · go_wp2_with fail
        exact bodyPost_ret (v := (.tuple #[.agg #[.int .u64 0, .int .u64 0, .slice none 0 0, .string ⟨#[]⟩], .int .i64 5])) (by simp [results, Tryz.results12, go_sem, FX.out.1, FX.out.2.1, FX.out.2.2.1, FX.out.2.2.2]) rfl ⟨FN.out (by simp), FB.out _ _ _ _⟩
      · go_wp2_with fail
        exact bodyPost_ret (v := (.tuple #[.agg #[.int .u64 0, .int .u64 0, .slice none 0 0, .string ⟨#[]⟩], .int .i64 5])) (by simp [results, Tryz.results12, go_sem, FX.out.1, FX.out.2.1, FX.out.2.2.1, FX.out.2.2.2]) rfl ⟨FN.out (by simp), FB.out _ _ _ _⟩
    · have hTb : (T.toList == s.toList) = false := by
        rw [beq_eq_false_iff_ne]
        intro h
        rw [ByteArray.toList_eq, ByteArray.toList_eq] at h
        exact hTs (ByteArray.ext (Array.ext' h))
      have HTS := Lib.hid hTs
      clear hTs
      rcases herr with rfl | rfl | rfl
      · go_wp2_with fail
        exact bodyPost_ret (v := (.tuple #[.agg #[.int .u64 0, .int .u64 0, .slice none 0 0, .string ⟨#[]⟩], .int .i64 5])) (by simp [results, Tryz.results12, go_sem, FX.out.1, FX.out.2.1, FX.out.2.2.1, FX.out.2.2.2]) rfl ⟨FN.out (by intro h; exact HTS.out (congrArg Prod.fst h)), FB.out _ _ _ _⟩
      · go_wp2_with fail
        exact bodyPost_ret (v := (.tuple #[.agg #[.int .u64 0, .int .u64 0, .slice none 0 0, .string ⟨#[]⟩], .int .i64 5])) (by simp [results, Tryz.results12, go_sem, FX.out.1, FX.out.2.1, FX.out.2.2.1, FX.out.2.2.2]) rfl ⟨FN.out (by intro h; exact HTS.out (congrArg Prod.fst h)), FB.out _ _ _ _⟩
      · go_wp2_with fail
        exact bodyPost_ret (v := (.tuple #[.agg #[.int .u64 0, .int .u64 0, .slice none 0 0, .string ⟨#[]⟩], .int .i64 5])) (by simp [results, Tryz.results12, go_sem, FX.out.1, FX.out.2.1, FX.out.2.2.1, FX.out.2.2.2]) rfl ⟨FN.out (by intro h; exact HTS.out (congrArg Prod.fst h)), FB.out _ _ _ _⟩
    )
end Go.Proofs.YtpnllalefpkcjaaGreatDoor.Store
