/-
Contract of store.GetDraw.
-/
import Derived.Test.YtpnllalefpkcjaaGreatDoorStoreGet2
namespace Go.Proofs.YtpnllalefpkcjaaGreatDoor.Store
open Go.RowKit Nat_ Notch

/-- The text and the error that PutDraw tells, by signs and numbers alone. -/
def drawW (k : Nat) (l : List (Bool × Nat)) : ByteArray × Int :=
  if 3 < k ∨ ¬ (l.length ≤ 200 ∧ ∀ z ∈ l, nl z.2 ≤ 64) then (ByteArray.empty, 2)
  else if 65536 < (Notch.encB [k] ++ txtB (Notch.encL l.length ++ l.flatMap fun z => Notch.encT (zdecs z.1 z.2))).size then (ByteArray.empty, 3)
  else (Notch.encB [k] ++ txtB (Notch.encL l.length ++ l.flatMap fun z => Notch.encT (zdecs z.1 z.2)), 0)
theorem placeL_map (zs : List (Bool × Value × Nat)) : placeL zs = Notch.encL (zs.map fun z => (z.1, z.2.2)).length ++ (zs.map fun z => (z.1, z.2.2)).flatMap fun z => Notch.encT (zdecs z.1 z.2) := by
  unfold placeL
  rw [List.length_map]
  congr 1
  induction zs with
  | nil => rfl
  | cons z zs ih => simp only [List.flatMap_cons, List.map_cons, ih]
theorem drawV_eq (k : Nat) (zs : List (Bool × Value × Nat)) : drawV k zs = .tuple #[.string (drawW k (zs.map fun z => (z.1, z.2.2))).1, .int .i64 (drawW k (zs.map fun z => (z.1, z.2.2))).2] := by
  have hm : mayB zs = false ↔ ¬ ((zs.map fun z => (z.1, z.2.2)).length ≤ 200 ∧ ∀ z ∈ (zs.map fun z => (z.1, z.2.2)), nl z.2 ≤ 64) := by
    rw [← Bool.not_eq_true]
    refine not_congr ?_
    unfold mayB
    rw [Bool.and_eq_true, List.all_eq_true, decide_eq_true_iff, List.length_map]
    refine and_congr Iff.rfl ?_
    constructor
    · intro h z hz
      obtain ⟨y, hy, rfl⟩ := List.mem_map.1 hz
      exact of_decide_eq_true (h y hy)
    · intro h z hz
      exact decide_eq_true (h (z.1, z.2.2) (List.mem_map.2 ⟨z, hz, rfl⟩))
  unfold drawV drawW
  rw [placeL_map]
  by_cases hc : 3 < k ∨ mayB zs = false
  · rw [if_pos hc, if_pos (hc.imp id hm.1)]
  · rw [if_neg hc, if_neg (fun h => hc (h.imp id hm.2))]
    unfold toldV
    split <;> rfl
/-- What GetDraw tells. -/
def GetD (B : Nat) (w' : World) (s : ByteArray) (e : Ending) : Prop :=
  (drawW ((numR s false).1 % 256) (placeR (numR s false).2.1 (numR s false).2.2).1 = (s, 0) ∧ ∃ v zs, e = .returned (.tuple #[.agg #[v, .int .u8 (((numR s false).1 % 256 : Nat) : Int)], .int .i64 0]) ∧
    w'.ownsRow B 47 2 v zs.length (flatZ zs) ∧ (∀ z ∈ zs, NN B w' z.2.1 z.2.2) ∧ zs.map (fun z => (z.1, z.2.2)) = (placeR (numR s false).2.1 (numR s false).2.2).1 ∧ zs.length ≤ 200) ∨
  (drawW ((numR s false).1 % 256) (placeR (numR s false).2.1 (numR s false).2.2).1 ≠ (s, 0) ∧ e = .returned (.tuple #[.agg #[.slice none 0 0, .int .u8 0], .int .i64 5]))
theorem drawW_err (k : Nat) (l : List (Bool × Nat)) : (drawW k l).2 = 0 ∨ (drawW k l).2 = 2 ∨ (drawW k l).2 = 3 := by
  unfold drawW
  split
  · exact .inr (.inl rfl)
  split
  · exact .inr (.inr rfl)
  · exact .inl rfl
set_option maxRecDepth 100000 in
set_option maxHeartbeats 2000000 in
theorem getDraw_any (s : ByteArray) (w : World) (hs : s.size ≤ 1000000) :
    Calls Tryz.prog 10 #[.string s] w fun e w' => GetD w.heap.size w' s e ∧ Below w.heap.size w w' := by
  obtain ⟨w1, hw1⟩ : ∃ w1, w.alloc (.cells #[.slice none 0 0, .int .u8 0] 25) = w1 := ⟨_, rfl⟩
  have hB1 : Below w.heap.size w w1 := by rw [← hw1]; exact (Below.refl _ _).alloc (Nat.le_refl _) _
  have k1 : Blk w1 w.heap.size 25 [.slice none 0 0, .int .u8 0] := by rw [← hw1]; exact Blk.new _ _ [_, _]
  have hopen := open_new s w1
  have k1lt := k1.lt
  obtain ⟨n, s1, b1, hnr⟩ : ∃ n s1 b1, numR s false = (n, s1, b1) := ⟨_, _, _, rfl⟩
  have hbd := numR_bd s false
  have hnum := fun g w h => num_any g s false w (by unfold maxLen; omega) h
  rw [hnr] at hbd
  simp only [hnr] at hnum
  have hGD : ∀ e w', GetD w.heap.size w' s e ↔ (drawW (n % 256) (placeR s1 b1).1 = (s, 0) ∧ ∃ v zs, e = .returned (.tuple #[.agg #[v, .int .u8 ((n % 256 : Nat) : Int)], .int .i64 0]) ∧
    w'.ownsRow w.heap.size 47 2 v zs.length (flatZ zs) ∧ (∀ z ∈ zs, NN w.heap.size w' z.2.1 z.2.2) ∧ zs.map (fun z => (z.1, z.2.2)) = (placeR s1 b1).1 ∧ zs.length ≤ 200) ∨
  (drawW (n % 256) (placeR s1 b1).1 ≠ (s, 0) ∧ e = .returned (.tuple #[.agg #[.slice none 0 0, .int .u8 0], .int .i64 5])) := by
    intro e w'
    unfold GetD
    rw [hnr]
  have hs1 : s1.size ≤ 1000000 := by have := hbd.2; simp only [] at this; omega
  have hwr : IntKind.u8.wrap (n : Int) = ((n % 256 : Nat) : Int) := by rw [IntKind.wrap_u8]; omega
  have hk : n % 256 < 256 := Nat.mod_lt _ (by decide)
  have hplace := fun g w h => getPlace_any g s1 b1 w hs1 h
  generalize n % 256 = k at *
  generalize placeR s1 b1 = pr at *
  have hdr := fun (zs : List (Bool × Value × Nat)) (h : zs.map (fun z => (z.1, z.2.2)) = pr.1) => (show drawV k zs = .tuple #[.string (drawW k pr.1).1, .int .i64 (drawW k pr.1).2] by rw [← h]; exact drawV_eq k zs)
  have herr := drawW_err k pr.1
  generalize drawW k pr.1 = dw at *
  obtain ⟨T, E⟩ := dw
  simp only [] at herr hdr
  have HO := Lib.hid hopen
  have HN := Lib.hid hnum
  have HG := Lib.hid hGD
  have HP := Lib.hid hplace
  have HD := Lib.hid hdr
  have HW1 := Lib.hid hB1
  clear hopen hnum hGD hplace hdr hbd hnr hB1
  obtain ⟨A, hA⟩ : ∃ A, w.heap.size = A := ⟨_, rfl⟩
  rw [hA] at k1 k1lt
  go_enter Tryz.func10, Tryz.ntmps10
  go_wp2_with fail
  refine HO.out.mono ?_
  rintro e w2 ⟨rfl, hr2, hlt2, hb2⟩
  obtain ⟨g, hg⟩ : ∃ g, w1.heap.size = g := ⟨_, rfl⟩
  rw [hg] at hr2 hlt2 k1lt ⊢
  have HGE := Lib.hid hg
  have hk2 := k1.below hb2 k1.lt
  have hr3 : Rdr (w2.alloc (.cells #[.pointer (some ⟨g, 0, none⟩)] 66)) g s false := Blk.alloc hr2 _
  have hk3 := hk2.alloc (.cells #[.pointer (some ⟨g, 0, none⟩)] 66)
  have hx3 : Blk (w2.alloc (.cells #[.pointer (some ⟨g, 0, none⟩)] 66)) w2.heap.size 66 [.pointer (some ⟨g, 0, none⟩)] := Blk.new w2 _ [_]
  have hb3 : Below w.heap.size w (w2.alloc (.cells #[.pointer (some ⟨g, 0, none⟩)] 66)) := ((HW1.out.trans (hb2.mono (by rw [HGE.out]; omega))).alloc (by omega) _)
  clear hg hw1 hb2 hr2 k1 hk2
  obtain ⟨X, hX⟩ : ∃ X, w2.heap.size = X := ⟨_, rfl⟩
  obtain ⟨w3, hw3⟩ : ∃ w3, w2.alloc (.cells #[.pointer (some ⟨g, 0, none⟩)] 66) = w3 := ⟨_, rfl⟩
  have hw3s : X < w3.heap.size := by rw [← hw3, ← hX]; simp
  rw [hX] at hx3 hlt2
  rw [hw3] at hr3 hk3 hx3 hb3
  have hx3c := hx3.cell 0
  have hx3f := hx3.frozen 0 (by simp)
  simp only [List.getElem?_cons_zero] at hx3c
  go_wp2_with fail
  refine (HN.out g w3 hr3).mono ?_
  rintro e w4 ⟨rfl, hr4, hg4⟩
  simp only [] at hr4 hg4 ⊢
  have hgA : A < g := k1lt
  have hgX : g < X := hlt2
  have hk4 : Blk w4 A 25 [.slice none 0 0, .int .u8 0] := Blk.grown hk3 hg4 (by intro e; injection e with e; omega)
  have hx4 := hx3.grown hg4 (by intro e; injection e with e; omega)
  have hb4 : Below w.heap.size w w4 := below_grown hb3 hg4 (by rw [hA]; omega) (by rw [hA]; omega)
  have hsz4 := hg4.size
  obtain ⟨D, hD⟩ : ∃ D, w4.heap.size = D := ⟨_, rfl⟩
  obtain ⟨w5, hw5⟩ : ∃ w5, w4.alloc (.cells #[.slice none 0 0, .int .u8 (k : Int)] 25) = w5 := ⟨_, rfl⟩
  have hd5 : Blk w5 D 25 [.slice none 0 0, .int .u8 (k : Int)] := by rw [← hw5, ← hD]; exact Blk.new _ _ [_, _]
  have hr5 : Rdr w5 g s1 b1 := by rw [← hw5]; exact Blk.alloc hr4 _
  have hk5 : Blk w5 A 25 [.slice none 0 0, .int .u8 0] := by rw [← hw5]; exact Blk.alloc hk4 _
  have hx5 : Blk w5 X 66 [.pointer (some ⟨g, 0, none⟩)] := by rw [← hw5]; exact Blk.alloc hx4 _
  have hb5 : Below w.heap.size w w5 := by rw [← hw5]; exact hb4.alloc (by rw [hA]; omega) _
  have hsz5 : w5.heap.size = D + 1 := by rw [← hw5, ← hD]; simp
  have hx5c := hx5.cell 0
  simp only [List.getElem?_cons_zero] at hx5c
  have HS5 := Lib.hid hsz5
  have hlt5 : D < w5.heap.size := by omega
  have hXD : X < D := by omega
  clear hsz5 hr4 hk4 hx4 hb4 hr3 hk3 hx3 hb3 hx3c hx3f hg4
  go_wp2_with fail
  refine (HP.out g w5 hr5).mono ?_
  rintro e w6 ⟨v, zs, rfl, hrow, hz, hzm, hzl, hr6, hg6⟩
  obtain ⟨qa, qc, rfl⟩ := own_slice hrow
  have hgD : D ≠ g := by omega
  have hd6 := Blk.grown hd5 hg6 (by intro e; injection e with e; omega)
  have hk6 := Blk.grown hk5 hg6 (by intro e; injection e with e; omega)
  have hb6 : Below w.heap.size w w6 := below_grown hb5 hg6 (by rw [hA]; omega) (by rw [hA]; omega)
  have hsz6 := hg6.size
  obtain ⟨w7, hw7⟩ : ∃ w7, w6.setCell ⟨D, 0, none⟩ (.slice qa zs.length qc) = w7 := ⟨_, rfl⟩
  have hd7 : Blk w7 D 25 [.slice qa zs.length qc, .int .u8 (k : Int)] := by rw [← hw7]; exact hd6.set_ 0 _
  have hk7 : Blk w7 A 25 [.slice none 0 0, .int .u8 0] := by rw [← hw7]; exact hk6.far (by show A ≠ D; omega) _
  have hb7 : Below w.heap.size w w7 := by rw [← hw7]; exact hb6.setCell (p := ⟨D, 0, none⟩) (by show w.heap.size ≤ D; omega) _
  have hrow7 : w7.ownsRow w5.heap.size 47 2 (.slice qa zs.length qc) zs.length (flatZ zs) := by rw [← hw7]; exact own_set2 hrow D 0 _ hlt5
  have hz7 : ∀ z ∈ zs, NN w5.heap.size w7 z.2.1 z.2.2 := by rw [← hw7]; exact fun z h => NN.grown (hz z h) (grown_set w6 D 0 _) hlt5
  have hsz7 : w7.heap.size = w6.heap.size := by rw [← hw7]; simp [World.setCell]
  have hd60 := hd6.cell 0
  have hd6f := hd6.frozen 0 (by simp)
  have hd61 := hd6.frozen 1 (by simp)
  have e0 := hd7.cell 0
  have e1 := hd7.cell 1
  simp only [List.getElem?_cons_zero, List.getElem?_cons_succ] at e0 e1 hd60
  have hlt6 : D < w6.heap.size := by omega
  have hlt7 : D < w7.heap.size := by omega
  have hZs : Zs w7 qa zs.length zs := by
    obtain ⟨a, c, he, hZ⟩ := zs_row hrow7 hz7
    obtain ⟨rfl, rfl⟩ : qa = a ∧ qc = c := by simpa using he
    exact hZ
  have hput := putDraw_any k qa zs.length qc zs w7 hk hZs (by omega)
  rw [HD.out zs hzm] at hput
  have HPUT := Lib.hid hput
  have HZ7 := Lib.hid (And.intro hz7 (And.intro hzm hsz7))
  clear hz7 hput hZs hd5 hk5 hx5 hb5 hr5 hd6 hk6 hb6 hrow hz hzm hsz7 hr6 hg6 hx5c
  go_wp2_with fail
  refine HPUT.out.mono ?_
  rintro e w8 ⟨rfl, hb8⟩
  have hd8 := hd7.below hb8 hlt7
  have hk8 := hk7.below hb8 (by have := hk7.lt; omega)
  have hbw8 : Below w.heap.size w w8 := hb7.trans (hb8.mono hb7.size)
  have hrow8 := own_below hrow7 hb8
  have HZ8 := Lib.hid (fun z h => (HZ7.out.1 z h).below hb8)
  have f0 := hd8.cell 0
  have f1 := hd8.cell 1
  have q0 := hk8.frozen 0 (by simp)
  have q1 := hk8.frozen 1 (by simp)
  have p0 := hk8.cell 0
  have p1 := hk8.cell 1
  have hlt8 := hd8.lt
  have hltA := hk8.lt
  simp only [List.getElem?_cons_zero, List.getElem?_cons_succ] at f0 f1 p0 p1
  have hkF := hk8.set_ 0 (.slice none 0 0)
  have hkF2 := hkF.set_ 1 (.int .u8 0)
  have hkG := hk8.set_ 0 (.slice qa zs.length qc)
  have hkG2 := hkG.set_ 1 (.int .u8 (k : Int))
  have x0 := hkF2.cell 0
  have x1 := hkF2.cell 1
  have y0 := hkG2.cell 0
  have y1 := hkG2.cell 1
  simp only [List.set_cons_zero, List.set_cons_succ, List.getElem?_cons_zero, List.getElem?_cons_succ] at x0 x1 y0 y1
  have hbF : ∀ a b : Value, Below w.heap.size w ((w8.setCell ⟨A, 0, none⟩ a).setCell ⟨A, 1, none⟩ b) := fun a b => (hbw8.setCell (p := ⟨A, 0, none⟩) (by show w.heap.size ≤ A; omega) a).setCell (p := ⟨A, 1, none⟩) (by show w.heap.size ≤ A; omega) b
  have hgood : GetD w.heap.size ((w8.setCell ⟨A, 0, none⟩ (.slice qa zs.length qc)).setCell ⟨A, 1, none⟩ (.int .u8 (k : Int))) s (.returned (.tuple #[.agg #[.slice qa zs.length qc, .int .u8 (k : Int)], .int .i64 0])) ∨ (T, E) ≠ (s, (0 : Int)) := by
    by_cases h : (T, E) = (s, (0 : Int))
    · refine .inl ((HG.out _ _).2 (.inl ⟨h, _, zs, rfl, ?_, ?_, HZ7.out.2.1, hzl⟩))
      · exact own_ge (own_set2 (own_set2 hrow8 A 0 _ (by omega)) A 1 _ (by omega)) (by omega)
      · intro z hz
        exact (NN.grown (NN.grown (HZ8.out z hz) (grown_set w8 A 0 _) (by omega)) (grown_set _ A 1 _) (by omega)).ge (by omega)
    · exact .inr h
  have hno : (T, E) ≠ (s, (0 : Int)) → GetD w.heap.size ((w8.setCell ⟨A, 0, none⟩ (.slice none 0 0)).setCell ⟨A, 1, none⟩ (.int .u8 0)) s (.returned (.tuple #[.agg #[.slice none 0 0, .int .u8 0], .int .i64 5])) := fun h => (HG.out _ _).2 (.inr ⟨h, rfl⟩)
  have FX := Lib.hid (And.intro x0 x1)
  have FY := Lib.hid (And.intro y0 y1)
  have FB := Lib.hid hbF
  have FG := Lib.hid hgood
  have FN := Lib.hid hno
  clear x0 x1 y0 y1 hbF hgood hno hkF hkF2 hkG hkG2 hd8 hk8 hbw8 hrow8 hb8 hd7 hk7 hb7 hrow7
  by_cases hT : T = s
  · rcases herr with rfl | rfl | rfl
    · subst hT
      go_wp2_with fail
      exact bodyPost_ret (v := .tuple #[.agg #[.slice qa zs.length qc, .int .u8 (k : Int)], .int .i64 0]) (by simp [results, Tryz.results10, go_sem, FY.out.1, FY.out.2]) rfl ⟨FG.out.resolve_right (by simp), FB.out _ _⟩
    · go_wp2_with fail
      exact bodyPost_ret (v := .tuple #[.agg #[.slice none 0 0, .int .u8 0], .int .i64 5]) (by simp [results, Tryz.results10, go_sem, FX.out.1, FX.out.2]) rfl ⟨FN.out (by simp), FB.out _ _⟩
    · go_wp2_with fail
      exact bodyPost_ret (v := .tuple #[.agg #[.slice none 0 0, .int .u8 0], .int .i64 5]) (by simp [results, Tryz.results10, go_sem, FX.out.1, FX.out.2]) rfl ⟨FN.out (by simp), FB.out _ _⟩
  · have hTb : (T.toList == s.toList) = false := by
      rw [beq_eq_false_iff_ne]
      intro h
      rw [ByteArray.toList_eq, ByteArray.toList_eq] at h
      exact hT (ByteArray.ext (Array.ext' h))
    have HT := Lib.hid hT
    clear hT
    rcases herr with rfl | rfl | rfl
    · go_wp2_with fail
      exact bodyPost_ret (v := .tuple #[.agg #[.slice none 0 0, .int .u8 0], .int .i64 5]) (by simp [results, Tryz.results10, go_sem, FX.out.1, FX.out.2]) rfl ⟨FN.out (by intro h; exact HT.out (congrArg Prod.fst h)), FB.out _ _⟩
    · go_wp2_with fail
      exact bodyPost_ret (v := .tuple #[.agg #[.slice none 0 0, .int .u8 0], .int .i64 5]) (by simp [results, Tryz.results10, go_sem, FX.out.1, FX.out.2]) rfl ⟨FN.out (by simp), FB.out _ _⟩
    · go_wp2_with fail
      exact bodyPost_ret (v := .tuple #[.agg #[.slice none 0 0, .int .u8 0], .int .i64 5]) (by simp [results, Tryz.results10, go_sem, FX.out.1, FX.out.2]) rfl ⟨FN.out (by simp), FB.out _ _⟩
end Go.Proofs.YtpnllalefpkcjaaGreatDoor.Store
