/-
Contract of the reference's Read: it tells what store.Read tells.
-/
import Derived.Test.YtaknmionaibodaaDoorStoreLaw
import Derived.Test.YtaknmionaibodaaDoorNotchRefText
import Derived.Test.YtaknmionaibodaaDoorStoreGet2
namespace Go.Proofs.YtaknmionaibodaaDoor.Store
open Go.RowKit Notch

theorem readV_none {B : Nat} {w : World} {s : ByteArray} (h : (headR s).2 = 0) : ReadV B w s (.returned (.agg #[.bool false, .string ⟨#[]⟩, .slice none 0 0, .int .i64 0])) := .inl ⟨h, rfl⟩
theorem readV_some {B : Nat} {w : World} {s t : ByteArray} {n u : Nat} {v : Value} {l : List (Nat × ByteArray × Nat)} (h : headR s = (t, n)) (hn : n ≠ 0) (hl : recsAt s n = l) (hu : u = endOf n l) (ho : w.ownsRow B 23 2 v l.length (flatR l)) :
    ReadV B w s (.returned (.agg #[.bool true, .string t, v, .int .i64 (u : Int)])) := by
  unfold ReadV
  rw [h]
  simp only []
  rw [hl, ← hu]
  exact .inr ⟨hn, v, rfl, ho⟩
theorem exText (s : ByteArray) (h : s.size ≤ 1000000) (m : Nat) (hm : m ≤ 100000) : (textR s false (m : Int)).1.size ≤ 100000 ∧ (textR s false (m : Int)).2.1.size ≤ 1000000 := by
  have := textR_bd s false m
  omega
theorem own_past {B : Nat} {w w' : World} {q : Nat} {e : TypeId} {size : Nat} {v : Value} {k : Nat} {xs : List Value} (h : w.ownsRow B e size v k xs) (hg : w.grownBy w' (some q)) (hq : w.heap.size ≤ q) : w'.ownsRow B e size v k xs := by
  obtain ⟨h0, h1⟩ := h
  refine ⟨h0, ?_⟩
  rcases h1 with h1 | ⟨g, cap, cur, e, hB, hgq, hr⟩
  · exact .inl h1
  · have hlt := (Array.getElem?_eq_some_iff.1 hgq).1
    exact .inr ⟨g, cap, cur, e, hB, (hg.block g hlt (by intro h; injection h with h; omega)).trans hgq, hr⟩
theorem putS_bd (k : Nat) (d : ByteArray) {P : ByteArray} (hd : d.size ≤ 65536) (hP : putS k d = P) : k ≤ 3 → P.size ≤ 100000 := by
  intro hk
  rw [← hP, put_size, List.length_append]
  have h1 := textB_size d (by omega)
  rw [← size_list, textB_list] at h1
  have h2 := encB_size k (by omega)
  rw [← size_list, encB_list] at h2
  omega
set_option maxRecDepth 100000 in
set_option maxHeartbeats 4000000 in
theorem rread_any (s : ByteArray) (w : World) (hs : s.size ≤ 1000000) :
    Calls Tryd.prog 15 #[.string s] w fun e w' => ReadV w.heap.size w' s e ∧ Below w.heap.size w w' := by
  obtain ⟨w00, hw00⟩ : ∃ w00, w.alloc (.cells #[.bool false, .string ⟨#[]⟩, .slice none 0 0, .int .i64 0] 36) = w00 := ⟨_, rfl⟩
  have hB00 : Below w.heap.size w w00 := by rw [← hw00]; exact (Below.refl _ _).alloc (Nat.le_refl _) _
  have k0 : Blk w00 w.heap.size 36 [.bool false, .string ⟨#[]⟩, .slice none 0 0, .int .i64 0] := by rw [← hw00]; exact Blk.new _ _ [_, _, _, _]
  have hhs := head_same s
  have hzero : ∀ W : World, Blk W w.heap.size 36 [.bool false, .string ⟨#[]⟩, .slice none 0 0, .int .i64 0] → Below w.heap.size w W →
      Blk ((((W.setCell ⟨w.heap.size, 0, none⟩ (.bool false)).setCell ⟨w.heap.size, 1, none⟩ (.string ⟨#[]⟩)).setCell ⟨w.heap.size, 2, none⟩ (.slice none 0 0)).setCell ⟨w.heap.size, 3, none⟩ (.int .i64 0)) w.heap.size 36 [.bool false, .string ⟨#[]⟩, .slice none 0 0, .int .i64 0] ∧
      Below w.heap.size w ((((W.setCell ⟨w.heap.size, 0, none⟩ (.bool false)).setCell ⟨w.heap.size, 1, none⟩ (.string ⟨#[]⟩)).setCell ⟨w.heap.size, 2, none⟩ (.slice none 0 0)).setCell ⟨w.heap.size, 3, none⟩ (.int .i64 0)) := fun W h hb =>
    ⟨(((h.set_ 0 (.bool false)).set_ 1 (.string ⟨#[]⟩)).set_ 2 (.slice none 0 0)).set_ 3 (.int .i64 0),
      (((hb.setCell (p := ⟨w.heap.size, 0, none⟩) (Nat.le_refl _) _).setCell (p := ⟨w.heap.size, 1, none⟩) (Nat.le_refl _) _).setCell (p := ⟨w.heap.size, 2, none⟩) (Nat.le_refl _) _).setCell (p := ⟨w.heap.size, 3, none⟩) (Nat.le_refl _) _⟩
  have HZ := Lib.hid hzero
  clear hzero
  obtain ⟨A, hA⟩ : ∃ A, w.heap.size = A := ⟨_, rfl⟩
  by_cases h4 : s.size < 4
  · have hn0 : (headR s).2 = 0 := by rw [hhs.1]; unfold rheadR; rw [if_pos h4]
    have HN := Lib.hid hn0
    clear hhs hn0
    have HF := Lib.hid (HZ.out w00 k0 hB00)
    rw [hA] at HF k0
    have f0 := k0.frozen 0 (by simp)
    have f1 := k0.frozen 1 (by simp)
    have f2 := k0.frozen 2 (by simp)
    have f3 := k0.frozen 3 (by simp)
    have c0 := k0.cell 0
    have c1 := k0.cell 1
    have c2 := k0.cell 2
    have c3 := k0.cell 3
    have kl := k0.lt
    simp only [List.getElem?_cons_zero, List.getElem?_cons_succ] at c0 c1 c2 c3
    go_enter Tryd.func15, Tryd.ntmps15
    go_wp2_with fail
    have d0 := HF.out.1.cell 0
    have d1 := HF.out.1.cell 1
    have d2 := HF.out.1.cell 2
    have d3 := HF.out.1.cell 3
    simp only [List.getElem?_cons_zero, List.getElem?_cons_succ] at d0 d1 d2 d3
    exact bodyPost_ret (v := .agg #[.bool false, .string ⟨#[]⟩, .slice none 0 0, .int .i64 0]) (by simp [results, Tryd.results15, go_sem, d0, d1, d2, d3]) rfl ⟨readV_none HN.out, by rw [hA]; exact HF.out.2⟩
  obtain ⟨X4, hX4⟩ : ∃ X4, s.extract 4 s.size = X4 := ⟨_, rfl⟩
  have hX4s : X4.size ≤ 1000000 := by rw [← hX4, ByteArray.size_extract]; omega
  obtain ⟨t, r2, b2, htr⟩ : ∃ t r2 b2, textR X4 false 100000 = (t, r2, b2) := ⟨_, _, _, rfl⟩
  have htx := fun g w h => rtext_any g X4 false 100000 w hX4s (by omega) (by omega) (by simp) h
  have hbd := exText X4 hX4s 100000 (by omega)
  rw [show ((100000 : Nat) : Int) = 100000 from rfl, htr] at hbd
  rw [htr] at htx
  simp only [] at htx hbd
  obtain ⟨htsz, -⟩ := hbd
  obtain ⟨H, hH⟩ : ∃ H, headS t = H := ⟨_, rfl⟩
  have hrh := fun w => rhead_any t w (by unfold maxLen; omega)
  have hhv : headV t = .tuple #[.string H, .int .i64 0] := by unfold headV; rw [if_neg (by omega), hH]
  rw [hhv] at hrh
  have hHs : H.size ≤ 1100000 := by
    rw [← hH, head_size, List.length_append]
    have h1 := textB_size t (by omega)
    rw [← size_list, textB_list] at h1
    simp only [List.length_cons, List.length_nil]
    omega
  have hrd : rheadR s = if b2 = true ∨ s.size < H.size ∨ s.extract 0 H.size ≠ H then (ByteArray.empty, 0) else (t, H.size) := by
    unfold rheadR
    rw [if_neg h4, hX4, htr]
    simp only []
    rw [hH]
  rw [hrd] at hhs
  have hH13 : 13 ≤ H.size := by rw [← hH, head_size, List.length_append]; simp only [List.length_cons, List.length_nil, encT, List.length_append, encL_length]; omega
  have HTX := Lib.hid htx
  have HRH := Lib.hid hrh
  have HHS := Lib.hid hhs
  clear htx hrh hhs hrd hhv hH htr htsz
  rw [hA] at k0
  have hB0 : Below w.heap.size w w00 := hB00
  go_enter Tryd.func15, Tryd.ntmps15
  go_wp2_with fail
  --WALK--
  have hr1 : RR (w00.alloc (.cells #[.string X4, .bool false] 72)) w00.heap.size X4 false := Blk.new w00 _ [_, _]
  have kA1 := k0.alloc (.cells #[.string X4, .bool false] 72)
  have hB1 := hB0.alloc hB0.size (.cells #[.string X4, .bool false] 72)
  have hA0 : A < w00.heap.size := k0.lt
  obtain ⟨g0, hg0⟩ : ∃ g0, w00.heap.size = g0 := ⟨_, rfl⟩
  obtain ⟨w1, hw1⟩ : ∃ w1, w00.alloc (.cells #[.string X4, .bool false] 72) = w1 := ⟨_, rfl⟩
  have hg1 : g0 < w1.heap.size := by rw [← hw1, ← hg0]; simp
  rw [hw1, hg0] at hr1
  rw [hw1] at kA1 hB1
  rw [hw1, hg0]
  rw [hg0] at hA0
  refine (HTX.out g0 w1 hr1).mono ?_
  rintro e w2 ⟨rfl, hr2, hgr2⟩
  have kA2 := kA1.grown hgr2 (by intro e; injection e with e; omega)
  have hB2 : Below w.heap.size w w2 := below_grown hB1 hgr2 (by rw [hA]; omega) (by rw [hA]; omega)
  have hA2 := kA2.lt
  have hg2 : g0 < w2.heap.size := Nat.lt_of_lt_of_le hg1 hgr2.size
  clear hr1 kA1 hB1 hgr2 hw1 hg0 hw00 hB00 k0 hB0 hg1
  go_wp2_with fail
  obtain ⟨G, hG⟩ : ∃ G, w2.heap.size = G := ⟨_, rfl⟩
  have hal3 : Below w2.heap.size w2 (w2.alloc (.cells #[.bool true, .string t, .slice none 0 0, .int .i64 0] 36)) := (Below.refl _ _).alloc (Nat.le_refl _) _
  have kG3 : Blk (w2.alloc (.cells #[.bool true, .string t, .slice none 0 0, .int .i64 0] 36)) w2.heap.size 36 [.bool true, .string t, .slice none 0 0, .int .i64 0] := Blk.new w2 _ [_, _, _, _]
  obtain ⟨w3, hw3⟩ : ∃ w3, w2.alloc (.cells #[.bool true, .string t, .slice none 0 0, .int .i64 0] 36) = w3 := ⟨_, rfl⟩
  rw [hw3] at hal3 kG3
  rw [hw3, hG]
  rw [hG] at kG3 hal3 hA2 hg2
  have kA3 : Blk w3 A 36 [.bool false, .string ⟨#[]⟩, .slice none 0 0, .int .i64 0] := kA2.below hal3 (by omega)
  have hr3 : RR w3 g0 r2 b2 := hr2.below hal3 (by omega)
  have hB3 : Below w.heap.size w w3 := hB2.trans (hal3.mono (by rw [hA]; omega))
  have hG3 : G < w3.heap.size := kG3.lt
  have HGE := Lib.hid hG
  clear hr2 kA2 hB2
  refine (HRH.out w3).mono ?_
  rintro e w4 ⟨rfl, hb4⟩
  have kA4 := kA3.below hb4 kA3.lt
  have kG4 := kG3.below hb4 kG3.lt
  have hr4 := hr3.below hb4 (Blk.lt hr3)
  have hB4 : Below w.heap.size w w4 := hB3.trans (hb4.mono (by rw [hA]; omega))
  have hBG4 : Below G w2 w4 := hal3.trans (hb4.mono (by omega))
  have hrb := hr4.b
  have hrl := Blk.lt hr4
  have hA4 := kA4.lt
  have hG4 := kG4.lt
  have f0 := kA4.frozen 0 (by simp)
  have f1 := kA4.frozen 1 (by simp)
  have f2 := kA4.frozen 2 (by simp)
  have f3 := kA4.frozen 3 (by simp)
  have c0 := kA4.cell 0
  have c1 := kA4.cell 1
  have c2 := kA4.cell 2
  have c3 := kA4.cell 3
  have g3 := kG4.cell 3
  have gf3 := kG4.frozen 3 (by simp)
  simp only [List.getElem?_cons_zero, List.getElem?_cons_succ] at c0 c1 c2 c3 g3
  clear hr3 hw3 hG hal3 kG3 kA3 hB3 hb4
  by_cases hbad : b2 = true ∨ s.size < H.size ∨ s.extract 0 H.size ≠ H
  · have hn0 : (headR s).2 = 0 := by rw [HHS.out.1, if_pos hbad]
    have HN := Lib.hid hn0
    have HF := Lib.hid (HZ.out w4 (by rw [hA]; exact kA4) hB4)
    rw [hA] at HF
    clear hn0
    have hend : ∀ (W : World), W = ((((w4.setCell ⟨A, 0, none⟩ (.bool false)).setCell ⟨A, 1, none⟩ (.string ⟨#[]⟩)).setCell ⟨A, 2, none⟩ (.slice none 0 0)).setCell ⟨A, 3, none⟩ (.int .i64 0)) → Blk W A 36 [.bool false, .string ⟨#[]⟩, .slice none 0 0, .int .i64 0] ∧ ReadV w.heap.size W s (.returned (.agg #[.bool false, .string ⟨#[]⟩, .slice none 0 0, .int .i64 0])) ∧ Below w.heap.size w W := by
      rintro W rfl
      rw [hA]
      exact ⟨HF.out.1, readV_none HN.out, HF.out.2⟩
    have HE := Lib.hid hend
    clear hend
    cases b2 with
    | true =>
      clear hbad
      go_wp2_with fail
      obtain ⟨hk, hV, hBB⟩ := HE.out _ rfl
      have d0 := hk.cell 0
      have d1 := hk.cell 1
      have d2 := hk.cell 2
      have d3 := hk.cell 3
      simp only [List.getElem?_cons_zero, List.getElem?_cons_succ] at d0 d1 d2 d3
      exact bodyPost_ret (v := .agg #[.bool false, .string ⟨#[]⟩, .slice none 0 0, .int .i64 0]) (by simp [results, Tryd.results15, go_sem, d0, d1, d2, d3]) rfl ⟨hV, hBB⟩
    | false =>
      by_cases hsz : s.size < H.size
      · have hszI : ((s.size : Nat) : Int) < ((H.size : Nat) : Int) := by omega
        clear hbad
        go_wp2_with fail
        obtain ⟨hk, hV, hBB⟩ := HE.out _ rfl
        have d0 := hk.cell 0
        have d1 := hk.cell 1
        have d2 := hk.cell 2
        have d3 := hk.cell 3
        simp only [List.getElem?_cons_zero, List.getElem?_cons_succ] at d0 d1 d2 d3
        exact bodyPost_ret (v := .agg #[.bool false, .string ⟨#[]⟩, .slice none 0 0, .int .i64 0]) (by simp [results, Tryd.results15, go_sem, d0, d1, d2, d3]) rfl ⟨hV, hBB⟩
      · have hne : s.extract 0 H.size ≠ H := (hbad.resolve_left (by simp)).resolve_left hsz
        have hneb : ((s.extract 0 H.size).toList == H.toList) = false := by
          rw [beq_eq_false_iff_ne]
          intro h
          rw [ByteArray.toList_eq, ByteArray.toList_eq] at h
          exact hne (bytes_eq h)
        have hszI : ((H.size : Nat) : Int) ≤ ((s.size : Nat) : Int) := by omega
        have hdec : decide (s.size < H.size) = false := decide_eq_false hsz
        clear hbad hne
        go_wp2_with fail
        obtain ⟨hk, hV, hBB⟩ := HE.out _ rfl
        have d0 := hk.cell 0
        have d1 := hk.cell 1
        have d2 := hk.cell 2
        have d3 := hk.cell 3
        simp only [List.getElem?_cons_zero, List.getElem?_cons_succ] at d0 d1 d2 d3
        exact bodyPost_ret (v := .agg #[.bool false, .string ⟨#[]⟩, .slice none 0 0, .int .i64 0]) (by simp [results, Tryd.results15, go_sem, d0, d1, d2, d3]) rfl ⟨hV, hBB⟩
  · have hhead : headR s = (t, H.size) := by
      have h1 := HHS.out.1
      rw [if_neg hbad] at h1
      have h2 := HHS.out.2 (by rw [h1]; show H.size ≠ 0; omega)
      rw [h2, if_neg hbad]
    obtain rfl : b2 = false := by
      cases b2 with
      | false => rfl
      | true => exact absurd (Or.inl rfl) hbad
    have hsz : H.size ≤ s.size := by
      rcases Nat.lt_or_ge s.size H.size with h | h
      · exact absurd (Or.inr (Or.inl h)) hbad
      · exact h
    have heq : s.extract 0 H.size = H := by
      rcases Decidable.em (s.extract 0 H.size = H) with h | h
      · exact h
      · exact absurd (Or.inr (Or.inr h)) hbad
    have hHH : (H.toList == H.toList) = true := by simp
    have hszI : ((H.size : Nat) : Int) ≤ ((s.size : Nat) : Int) := by omega
    have hdec : decide (s.size < H.size) = false := decide_eq_false (by omega)
    have HHD := Lib.hid hhead
    have kG5 := kG4.set_ 3 (.int .i64 (H.size : Int))
    have hBG5 := hBG4.setCell (p := ⟨G, 3, none⟩) (Nat.le_refl _) (.int .i64 (H.size : Int))
    have hAG5 := kA4.far (p := ⟨G, 3, none⟩) (by show A ≠ G; omega) (.int .i64 (H.size : Int))
    have hB5 := hB4.setCell (p := ⟨G, 3, none⟩) (by show w.heap.size ≤ G; rw [hA]; omega) (.int .i64 (H.size : Int))
    have hw5 : G < (w4.setCell ⟨G, 3, none⟩ (.int .i64 (H.size : Int))).heap.size := by simp [World.setCell]; omega
    clear hbad hhead kG4 kA4 hB4 hBG4 HHS HRH
    simp only [List.set_cons_zero, List.set_cons_succ] at kG5
    go_wp2_with fail
    go_loopw [7] (fun _ wr => ∃ (l : List (Nat × ByteArray × Nat)) (v : Value) (u : Nat), u ≤ s.size ∧ KB wr G t v u ∧ wr.ownsRow (G + 1) 23 2 v l.length (flatR l) ∧ Hid (recsAt s H.size = l ++ recsAt s u ∧ u = endOf H.size l ∧ l.length ≤ u) ∧ Below G w2 wr ∧ Blk wr A 36 [.bool false, .string ⟨#[]⟩, .slice none 0 0, .int .i64 0] ∧ Below w.heap.size w wr) (fun _ wr => s.size - usedOf G wr)
    case atStart => exact ⟨[], .slice none 0 0, H.size, hsz, kG5, World.ownsRow_nil _ _ _ _, ⟨rfl, rfl, Nat.zero_le _⟩, hBG5, hAG5, hB5⟩
    case round =>
      clear kG5 hBG5 hAG5 hB5 hr4 hrb hrl hA4 hG4 f0 f1 f2 f3 c0 c1 c2 c3 g3 gf3 heq hHH hszI hdec hw5 hG3
      obtain ⟨l, v, u, hu, kb, hrow, HL, hB, kt, hBw⟩ := hrel
      obtain ⟨va, vc, rfl⟩ := own_slice hrow
      have hgr := kb.lt
      have hlu := HL.out.2.2
      have hret : ∀ (W : World), KB W G t (.slice va l.length vc) u → Blk W A 36 [.bool false, .string ⟨#[]⟩, .slice none 0 0, .int .i64 0] → W.ownsRow (G + 1) 23 2 (.slice va l.length vc) l.length (flatR l) → Below w.heap.size w W → recsAt s u = [] →
          (∀ W4, W4 = ((((W.setCell ⟨A, 0, none⟩ (.bool true)).setCell ⟨A, 1, none⟩ (.string t)).setCell ⟨A, 2, none⟩ (.slice va l.length vc)).setCell ⟨A, 3, none⟩ (.int .i64 (u : Int))) →
            (Blk W4 A 36 [.bool true, .string t, .slice va l.length vc, .int .i64 (u : Int)] ∧ ReadV w.heap.size W4 s (.returned (.agg #[.bool true, .string t, .slice va l.length vc, .int .i64 (u : Int)])) ∧ Below w.heap.size w W4) ∧
            ∀ o, (Blk (W4.alloc o) A 36 [.bool true, .string t, .slice va l.length vc, .int .i64 (u : Int)] ∧ ReadV w.heap.size (W4.alloc o) s (.returned (.agg #[.bool true, .string t, .slice va l.length vc, .int .i64 (u : Int)])) ∧ Below w.heap.size w (W4.alloc o))) := by
        rintro W hk ht hr hbw hnil W4 rfl
        have hAG : A < G + 1 := by omega
        have h1 := (((ht.set_ 0 (.bool true)).set_ 1 (.string t)).set_ 2 (.slice va l.length vc)).set_ 3 (.int .i64 (u : Int))
        have h2 := own_set2 (own_set2 (own_set2 (own_set2 hr A 0 (.bool true) hAG) A 1 (.string t) hAG) A 2 (.slice va l.length vc) hAG) A 3 (.int .i64 (u : Int)) hAG
        have hwA : w.heap.size ≤ A := by omega
        have h3 := (((hbw.setCell (p := ⟨A, 0, none⟩) hwA (.bool true)).setCell (p := ⟨A, 1, none⟩) hwA (.string t)).setCell (p := ⟨A, 2, none⟩) hwA (.slice va l.length vc)).setCell (p := ⟨A, 3, none⟩) hwA (.int .i64 (u : Int))
        have hl : recsAt s H.size = l := by have := HL.out.1; rw [hnil, List.append_nil] at this; exact this
        have hn : H.size ≠ 0 := by omega
        exact ⟨⟨h1, readV_some HHD.out hn hl HL.out.2.1 (own_ge h2 (by omega)), h3⟩, fun o => ⟨h1.alloc o, readV_some HHD.out hn hl HL.out.2.1 (own_ge (h2.alloc o) (by omega)), h3.alloc h3.size o⟩⟩
      have hstep := recsAt_eq s u hu
      have hsame := rec_same (s.extract u s.size)
      have hxl : ∀ n, u + n ≤ s.size → (s.extract u s.size).extract 0 n = s.extract u (u + n) := by
        intro n hn
        apply bytes_eq
        rw [ex_take, ex_drop]
        simp only [ByteArray.data_extract, Array.toList_extract, List.extract]
        congr 1
        omega
      have hXsz : (s.extract u s.size).size = s.size - u := by rw [ByteArray.size_extract]; omega
      obtain ⟨X, hX⟩ : ∃ X, s.extract u s.size = X := ⟨_, rfl⟩
      rw [hX] at hstep hsame hxl hXsz
      have hXm : X.size ≤ 1000000 := by omega
      obtain ⟨k, s1, b1, hnr⟩ : ∃ k s1 b1, numR X false = (k, s1, b1) := ⟨_, _, _, rfl⟩
      obtain ⟨d, s2, b2, htr⟩ : ∃ d s2 b2, textR s1 b1 65536 = (d, s2, b2) := ⟨_, _, _, rfl⟩
      have hnb := numR_bd X false
      have hni := textR_empty_inv X false (by simp)
      have hnum := fun q w h => rnum_any q X false w (by unfold maxLen; omega) (by simp) h
      rw [hnr] at hnb hni
      simp only [hnr] at hnum
      simp only [] at hnb hni
      have hs1m : s1.size ≤ 1000000 := by omega
      have htext := fun q w h => rtext_any q s1 b1 65536 w hs1m (by omega) (by omega) hni h
      have htb := textR_bd s1 b1 65536
      rw [show ((65536 : Nat) : Int) = 65536 from rfl, htr] at htb
      simp only [htr] at htext
      simp only [] at htb
      have hdm : d.size ≤ 65536 := htb.1
      obtain ⟨P, hP⟩ : ∃ P, putS k d = P := ⟨_, rfl⟩
      have hrr : rrecR X = if b2 = true ∨ 3 < k ∨ k < 1 ∨ X.size < P.size ∨ X.extract 0 P.size ≠ P then (0, ByteArray.empty, 0) else (k, d, P.size) := by
        unfold rrecR
        rw [hnr]
        simp only []
        rw [htr]
        simp only []
        rw [hP]
      have hnil : (b2 = true ∨ 3 < k ∨ k < 1 ∨ X.size < P.size ∨ X.extract 0 P.size ≠ P) → recsAt s u = [] := by
        intro hc
        rw [if_pos hc] at hrr
        rw [hstep, if_pos (by rw [hsame.1, hrr])]
      have hP8 : 8 ≤ P.size := by rw [← hP, put_size]; omega
      have hPs : k ≤ 3 → P.size ≤ 100000 := putS_bd k d hdm hP
      obtain ⟨E, hE⟩ : ∃ E, u + P.size = E := ⟨_, rfl⟩
      have HEE := Lib.hid hE
      have hmore : ¬ (b2 = true ∨ 3 < k ∨ k < 1 ∨ X.size < P.size ∨ X.extract 0 P.size ≠ P) → recsAt s u = (k, d, u + P.size) :: recsAt s (u + P.size) := by
        intro hc
        rw [if_neg hc] at hrr
        have h1 := hsame.1
        rw [hrr] at h1
        simp only [] at h1
        have h2 := hsame.2 (by omega)
        rw [hrr] at h2
        rw [hstep, if_neg (by omega), h2]
      have hput : k ≤ 3 → ∀ w, Calls Tryd.prog 12 #[.agg #[.int .u8 (k : Int), .string d]] w fun e w' => e = .returned (putV k d) ∧ Below w.heap.size w w' := fun hk w => rput_any k d w (by omega) (by unfold maxLen; omega)
      have hpv : 1 ≤ k → k ≤ 3 → putV k d = .tuple #[.string P, .int .i64 0] := fun h1 h2 => by
        unfold putV
        rw [if_neg (by omega), if_neg (by omega), hP]
      have hpz : k < 1 → putV k d = .tuple #[.string ByteArray.empty, .int .i64 2] := fun h1 => by
        unfold putV
        rw [if_pos (.inl h1)]
      have HRET := Lib.hid hret
      have HNUM := Lib.hid hnum
      have HTXT := Lib.hid htext
      have HLAW := Lib.hid (And.intro hnil (And.intro hmore (And.intro hput (And.intro hpv (And.intro hpz (And.intro hxl hPs))))))
      have HXS := Lib.hid hXsz
      clear hret hnum htext hnil hmore hput hpv hpz hxl hPs hE hXsz hstep hsame hrr hP hnb hni hnr htr htb
      have c3 := kb.cell 3
      simp only [List.getElem?_cons_zero, List.getElem?_cons_succ] at c3
      have HUS := Lib.hid (show usedOf G wr = u from by unfold usedOf; rw [c3]; exact Int.toNat_natCast u)
      have hrq : RR (wr.alloc (.cells #[.string X, .bool false] 72)) wr.heap.size X false := Blk.new wr _ [_, _]
      have hal : Below wr.heap.size wr (wr.alloc (.cells #[.string X, .bool false] 72)) := (Below.refl _ _).alloc (Nat.le_refl _) _
      have hql : wr.heap.size < (wr.alloc (.cells #[.string X, .bool false] 72)).heap.size := by simp
      go_wp2_with fail
      refine (HNUM.out _ _ hrq).mono ?_
      rintro e wb ⟨rfl, hrb, hgb⟩
      have hqb : wr.heap.size < wb.heap.size := Blk.lt hrb
      have hgrb : wr.grownBy wb (some wr.heap.size) := grown_trans (grown_of_below hal _) hgb
      obtain ⟨q, hq⟩ : ∃ q, wr.heap.size = q := ⟨_, rfl⟩
      have hltA : A < wr.heap.size := kt.lt
      rw [hq] at hrb hgb hqb hgrb hltA hgr
      rw [hq]
      have HQ := Lib.hid hq
      clear hrq hal hql hq hgb
      go_wp2_with fail
      refine (HTXT.out q wb hrb).mono ?_
      rintro e wc ⟨rfl, hrc, hgc⟩
      have hgrc : wr.grownBy wc (some q) := grown_trans hgrb hgc
      have hqc : q < wc.heap.size := Blk.lt hrc
      have kbc : KB wc G t (.slice va l.length vc) u := Blk.grown kb hgrc (by intro e; injection e with e; omega)
      have ktc := kt.grown hgrc (by intro e; injection e with e; omega)
      have hrc' := own_past hrow hgrc (by rw [HQ.out]; omega)
      have hBGc : Below G w2 wc := below_grown hB hgrc (by rw [HQ.out]; omega) (by omega)
      have hBc : Below w.heap.size w wc := below_grown hBw hgrc (by rw [HQ.out]; omega) (by omega)
      have rb1 := hrc.b
      clear hrb hgrb hgc kb kt hrow hB hBw hgrc c3
      have e0 := kbc.cell 0
      have e1 := kbc.cell 1
      have e2 := kbc.cell 2
      have e3 := kbc.cell 3
      have q0 := ktc.frozen 0 (by simp)
      have q1 := ktc.frozen 1 (by simp)
      have q2 := ktc.frozen 2 (by simp)
      have q3 := ktc.frozen 3 (by simp)
      have p0 := ktc.cell 0
      have p1 := ktc.cell 1
      have p2 := ktc.cell 2
      have p3 := ktc.cell 3
      have pl := ktc.lt
      have el := kbc.lt
      simp only [List.getElem?_cons_zero, List.getElem?_cons_succ] at e0 e1 e2 e3 p0 p1 p2 p3
      cases b2 with
      | true =>
        have HNIL := Lib.hid (HLAW.out.1 (.inl rfl))
        have hq := HRET.out wc kbc ktc hrc' hBc HNIL.out
        have FF := Lib.hid hq
        clear hq
        go_wp2_with fail
        obtain ⟨hk, hV, hBB⟩ := (FF.out _ rfl).2 (.cells #[.int .u8 0, .string d] 23)
        have d0 := hk.cell 0
        have d1 := hk.cell 1
        have d2 := hk.cell 2
        have d3 := hk.cell 3
        simp only [List.getElem?_cons_zero, List.getElem?_cons_succ] at d0 d1 d2 d3
        exact bodyPost_ret (v := .agg #[.bool true, .string t, .slice va l.length vc, .int .i64 (u : Int)]) (by simp [results, Tryd.results15, go_sem, d0, d1, d2, d3]) rfl ⟨hV, hBB⟩
      | false =>
        by_cases hk3 : 3 < k
        · have HNIL := Lib.hid (HLAW.out.1 (.inr (.inl hk3)))
          have hk3I : (3 : Int) < (k : Int) := by omega
          have hq := HRET.out wc kbc ktc hrc' hBc HNIL.out
          have FF := Lib.hid hq
          clear hq
          go_wp2_with fail
          obtain ⟨hk, hV, hBB⟩ := (FF.out _ rfl).2 (.cells #[.int .u8 0, .string d] 23)
          have d0 := hk.cell 0
          have d1 := hk.cell 1
          have d2 := hk.cell 2
          have d3 := hk.cell 3
          simp only [List.getElem?_cons_zero, List.getElem?_cons_succ] at d0 d1 d2 d3
          exact bodyPost_ret (v := .agg #[.bool true, .string t, .slice va l.length vc, .int .i64 (u : Int)]) (by simp [results, Tryd.results15, go_sem, d0, d1, d2, d3]) rfl ⟨hV, hBB⟩
        · have hk3I : ((k : Nat) : Int) ≤ 3 := by omega
          have hwr : IntKind.u8.wrap (k : Int) = (k : Int) := by rw [IntKind.wrap_u8]; omega
          have hput := HLAW.out.2.2.1 (by omega)
          have hald : Below wc.heap.size wc (wc.alloc (.cells #[.int .u8 (k : Int), .string d] 23)) := (Below.refl _ _).alloc (Nat.le_refl _) _
          have kD : Blk (wc.alloc (.cells #[.int .u8 (k : Int), .string d] 23)) wc.heap.size 23 [.int .u8 (k : Int), .string d] := Blk.new wc _ [_, _]
          have kbD := kbc.below hald kbc.lt
          have ktD := ktc.below hald ktc.lt
          have hrD := own_below hrc' hald
          have hBGD := hBGc.alloc (by have := hBGc.size; have := HGE.out; omega) (.cells #[.int .u8 (k : Int), .string d] 23)
          have hBD := hBc.alloc hBc.size (.cells #[.int .u8 (k : Int), .string d] 23)
          go_wp2_with fail
          refine (hput _).mono ?_
          rintro e wd ⟨rfl, hbd⟩
          have kbd : KB wd G t (.slice va l.length vc) u := kbD.below hbd kbD.lt
          have ktd := ktD.below hbd ktD.lt
          have hrd := own_below hrD hbd
          have hBGd : Below G w2 wd := hBGD.trans (hbd.mono (by have := hBGD.size; have := HGE.out; omega))
          have hBd : Below w.heap.size w wd := hBD.trans (hbd.mono hBD.size)
          have kDd := kD.below hbd kD.lt
          obtain ⟨D, hD⟩ : ∃ D, wc.heap.size = D := ⟨_, rfl⟩
          rw [hD] at kDd
          rw [hD]
          have HDE := Lib.hid hD
          clear e0 e1 e2 e3 q0 q1 q2 q3 p0 p1 p2 p3 pl el hald kD kbD ktD hrD hBGD hBD hbd kbc ktc hrc' hBGc hBc rb1 hrc hD hput
          have e0 := kbd.cell 0
          have e1 := kbd.cell 1
          have e2 := kbd.cell 2
          have e3 := kbd.cell 3
          have q0 := ktd.frozen 0 (by simp)
          have q1 := ktd.frozen 1 (by simp)
          have q2 := ktd.frozen 2 (by simp)
          have q3 := ktd.frozen 3 (by simp)
          have p0 := ktd.cell 0
          have p1 := ktd.cell 1
          have p2 := ktd.cell 2
          have p3 := ktd.cell 3
          have x0 := kDd.cell 0
          have x1 := kDd.cell 1
          have r2f := kbd.frozen 2 (by simp)
          have r3f := kbd.frozen 3 (by simp)
          have pl := ktd.lt
          have el := kbd.lt
          have xl := kDd.lt
          simp only [List.getElem?_cons_zero, List.getElem?_cons_succ] at e0 e1 e2 e3 p0 p1 p2 p3 x0 x1
          by_cases hk1 : k < 1
          · have HNIL := Lib.hid (HLAW.out.1 (.inr (.inr (.inl hk1))))
            rw [HLAW.out.2.2.2.2.1 hk1]
            have hq := HRET.out wd kbd ktd hrd hBd HNIL.out
            have FF := Lib.hid hq
            clear hq
            go_wp2_with fail
            obtain ⟨hk, hV, hBB⟩ := (FF.out _ rfl).1
            have d0 := hk.cell 0
            have d1 := hk.cell 1
            have d2 := hk.cell 2
            have d3 := hk.cell 3
            simp only [List.getElem?_cons_zero, List.getElem?_cons_succ] at d0 d1 d2 d3
            exact bodyPost_ret (v := .agg #[.bool true, .string t, .slice va l.length vc, .int .i64 (u : Int)]) (by simp [results, Tryd.results15, go_sem, d0, d1, d2, d3]) rfl ⟨hV, hBB⟩
          · rw [HLAW.out.2.2.2.1 (by omega) (by omega)]
            have HXL := Lib.hid HLAW.out.2.2.2.2.2.1
            have hPs := HLAW.out.2.2.2.2.2.2 (by omega)
            by_cases hsP : X.size < P.size
            · have HNIL := Lib.hid (HLAW.out.1 (.inr (.inr (.inr (.inl hsP)))))
              have hsz2 : s.size < E := by have := HXS.out; have := HEE.out; omega
              have hdec2 : decide (s.size < E) = true := decide_eq_true hsz2
              have hszJ : ((s.size : Nat) : Int) < ((E : Nat) : Int) := by omega
              have hEI : ((u : Nat) : Int) + ((P.size : Nat) : Int) = ((E : Nat) : Int) := by have := HEE.out; omega
              have hq := HRET.out wd kbd ktd hrd hBd HNIL.out
              have FF := Lib.hid hq
              clear hq
              go_wp2_with fail
              obtain ⟨hk, hV, hBB⟩ := (FF.out _ rfl).1
              have d0 := hk.cell 0
              have d1 := hk.cell 1
              have d2 := hk.cell 2
              have d3 := hk.cell 3
              simp only [List.getElem?_cons_zero, List.getElem?_cons_succ] at d0 d1 d2 d3
              exact bodyPost_ret (v := .agg #[.bool true, .string t, .slice va l.length vc, .int .i64 (u : Int)]) (by simp [results, Tryd.results15, go_sem, d0, d1, d2, d3]) rfl ⟨hV, hBB⟩
            · have hsz2 : E ≤ s.size := by have := HXS.out; have := HEE.out; omega
              have huE : u ≤ E := by have := HEE.out; omega
              have hszJ : ((E : Nat) : Int) ≤ ((s.size : Nat) : Int) := by omega
              have huEJ : ((u : Nat) : Int) ≤ ((E : Nat) : Int) := by omega
              have hdec2 : decide (s.size < E) = false := decide_eq_false (by omega)
              have hxe := HXL.out P.size (by have := HEE.out; omega)
              rw [HEE.out] at hxe
              have hEI : ((u : Nat) : Int) + ((P.size : Nat) : Int) = ((E : Nat) : Int) := by have := HEE.out; omega
              by_cases hne : X.extract 0 P.size ≠ P
              · have HNIL := Lib.hid (HLAW.out.1 (.inr (.inr (.inr (.inr hne)))))
                rw [hxe] at hne
                have hneb : ((s.extract u E).toList == P.toList) = false := by
                  rw [beq_eq_false_iff_ne]
                  intro h
                  rw [ByteArray.toList_eq, ByteArray.toList_eq] at h
                  exact hne (bytes_eq h)
                clear hne hxe
                have hq := HRET.out wd kbd ktd hrd hBd HNIL.out
                have FF := Lib.hid hq
                clear hq
                go_wp2_with fail
                obtain ⟨hk, hV, hBB⟩ := (FF.out _ rfl).1
                have d0 := hk.cell 0
                have d1 := hk.cell 1
                have d2 := hk.cell 2
                have d3 := hk.cell 3
                simp only [List.getElem?_cons_zero, List.getElem?_cons_succ] at d0 d1 d2 d3
                exact bodyPost_ret (v := .agg #[.bool true, .string t, .slice va l.length vc, .int .i64 (u : Int)]) (by simp [results, Tryd.results15, go_sem, d0, d1, d2, d3]) rfl ⟨hV, hBB⟩
              · have hst := HLAW.out.2.1 (by
                  intro h
                  rcases h with h | h | h | h | h
                  · simp at h
                  · exact hk3 h
                  · exact hk1 h
                  · exact hsP h
                  · exact hne h)
                have heq : s.extract u E = P := by
                  rw [← hxe]
                  exact Decidable.not_not.1 hne
                have hPP : (P.toList == P.toList) = true := by simp
                have H2 := Lib.hid (show recsAt s H.size = (l ++ [(k, d, E)]) ++ recsAt s E ∧ E = endOf H.size (l ++ [(k, d, E)]) ∧ (l ++ [(k, d, E)]).length ≤ E from by
                  rw [← HEE.out]
                  exact ⟨by rw [HL.out.1, hst, List.append_assoc]; rfl, by rw [endOf_snoc], by rw [List.length_append, List.length_singleton]; have := HL.out.2.2; omega⟩)
                have hll : l.length ≤ 1000000 := by have := HL.out.2.2; omega
                clear hst hxe hne hlu
                go_wp2_with (at_builtin; refine app_rec wd rfl _ _ rfl (G + 1) (.slice va l.length vc) l.length (flatR l) (k : Int) d rfl hrd wd.heap.size rfl rfl hll (by omega) ?_; intro g' cap' we howne hbe; have kbe : KB we G t (.slice va l.length vc) u := Blk.below kbd hbe (Nat.lt_succ_self G); have z2 := kbe.cell 2; have z3 := kbe.cell 3; have y2 := kbe.frozen 2 (by simp); have y3 := kbe.frozen 3 (by simp); simp only [List.getElem?_cons_zero, List.getElem?_cons_succ] at z2 z3)
                have kbf : Blk ((we.setCell ⟨G, 2, none⟩ (.slice (some ⟨g', 0, none⟩) (l.length + 1) cap')).setCell ⟨G, 3, none⟩ (.int .i64 (E : Int))) G 36 [.bool true, .string t, .slice (some ⟨g', 0, none⟩) (l.length + 1) cap', .int .i64 (E : Int)] := (Blk.set_ kbe 2 _).set_ 3 _
                have kte := ktd.below hbe (by omega)
                have ktf := (kte.far (p := ⟨G, 2, none⟩) (by show A ≠ G; omega) (.slice (some ⟨g', 0, none⟩) (l.length + 1) cap')).far (p := ⟨G, 3, none⟩) (by show A ≠ G; omega) (.int .i64 (E : Int))
                have hus2 := kbf.cell 3
                go_roundw
                case rel =>
                  refine ⟨l ++ [(k, d, E)], .slice (some ⟨g', 0, none⟩) (l.length + 1) cap', E, hsz2, kbf, ?_, H2, ?_, ktf, ?_⟩
                  · rw [flatR_snoc, List.length_append, List.length_singleton]
                    exact own_set2 (own_set2 howne G 2 _ (Nat.lt_succ_self G)) G 3 _ (Nat.lt_succ_self G)
                  · have h1 : Below G w2 we := hBGd.trans (hbe.mono (by omega))
                    exact (h1.setCell (p := ⟨G, 2, none⟩) (Nat.le_refl _) _).setCell (p := ⟨G, 3, none⟩) (Nat.le_refl _) _
                  · have h1 : Below w.heap.size w we := hBd.trans (hbe.mono (by omega))
                    exact (h1.setCell (p := ⟨G, 2, none⟩) (by show w.heap.size ≤ G; omega) _).setCell (p := ⟨G, 3, none⟩) (by show w.heap.size ≤ G; omega) _
                case measure =>
                  rw [HUS.out]
                  have : usedOf G ((we.setCell ⟨G, 2, none⟩ (.slice (some ⟨g', 0, none⟩) (l.length + 1) cap')).setCell ⟨G, 3, none⟩ (.int .i64 (E : Int))) = E := by
                    unfold usedOf
                    rw [hus2]
                    exact Int.toNat_natCast E
                  rw [this]
                  have := HEE.out
                  omega
end Go.Proofs.YtaknmionaibodaaDoor.Store
