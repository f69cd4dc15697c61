/-
Contract of the reader's place: the walk.
-/
import Derived.Test.YtpnllalefpkcjaaGreatDoorStoreGet
namespace Go.Proofs.YtpnllalefpkcjaaGreatDoor.Store
open Go.RowKit Nat_ Notch

theorem textR_bd (s : ByteArray) (bad : Bool) (most : Nat) : (textR s bad (most : Int)).1.size ≤ most ∧ (textR s bad (most : Int)).2.1.size ≤ s.size := by
  obtain ⟨h1, h2⟩ := numR_bd s bad
  unfold textR
  split
  · exact ⟨Nat.zero_le _, h2⟩
  split
  · exact ⟨Nat.zero_le _, Nat.zero_le _⟩
  · refine ⟨?_, ?_⟩
    · simp only [ByteArray.size_extract]; omega
    · simp only [ByteArray.size_extract]; omega
/-- What place tells. -/
def GetP (w : World) (g : Nat) (r : List (Bool × Nat) × ByteArray × Bool) (e : Ending) (w' : World) : Prop :=
  ∃ v zs, e = .returned v ∧ w'.ownsRow w.heap.size 47 2 v zs.length (flatZ zs) ∧ (∀ z ∈ zs, NN w.heap.size w' z.2.1 z.2.2) ∧
      zs.map (fun z => (z.1, z.2.2)) = r.1 ∧ zs.length ≤ 200 ∧ After w g r.2.1 r.2.2 w'
set_option maxRecDepth 100000 in
set_option maxHeartbeats 2000000 in
theorem getPlace_any (g : Nat) (s : ByteArray) (bad : Bool) (w : World) (hs : s.size ≤ 1000000) (h : Rdr w g s bad) :
    Calls Tryz.prog 29 #[.agg #[.pointer (some ⟨g, 0, none⟩)]] w (GetP w g (placeR s bad)) := by
  have hal := (Below.refl w.heap.size w).alloc (Nat.le_refl _) (.cells #[.pointer (some ⟨g, 0, none⟩)] 66)
  have hgw := Blk.lt h
  have hbox : Blk (w.alloc (.cells #[.pointer (some ⟨g, 0, none⟩)] 66)) w.heap.size 66 [.pointer (some ⟨g, 0, none⟩)] := Blk.new w _ [_]
  have hr1 : Rdr (w.alloc (.cells #[.pointer (some ⟨g, 0, none⟩)] 66)) g s bad := Blk.alloc h _
  have hnum := num_any g s bad _ (by unfold maxLen; omega) hr1
  obtain ⟨hn64, hss⟩ := numR_bd s bad
  have hpr : placeR s bad = if 200 < (numR s bad).1 then ([], (numR s bad).2) else placeF (numR s bad).1 (numR s bad).2.1 (numR s bad).2.2 := rfl
  generalize placeR s bad = pr at *
  generalize numR s bad = nr at *
  obtain ⟨n, s1, b1⟩ := nr
  simp only [] at hnum hn64 hss hpr ⊢
  have HPR := Lib.hid hpr
  clear hpr
  have hs1 : s1.size ≤ 1000000 := by omega
  have HN := Lib.hid hnum
  have HA := Lib.hid hal
  have HR1 := Lib.hid hr1
  clear hnum h hal hr1 hss
  have cb := hbox.cell 0
  simp only [List.getElem?_cons_zero] at cb
  go_enter Tryz.func29, Tryz.ntmps29
  go_wp2_with fail
  refine HN.out.mono ?_
  rintro e w2 ⟨rfl, hr2, hg2⟩
  have hgr2 : w.grownBy w2 (some g) := grown_trans (grown_of_below HA.out _) hg2
  have hbox2 : Blk w2 w.heap.size 66 [.pointer (some ⟨g, 0, none⟩)] := hbox.grown hg2 (by intro e; injection e with e; omega)
  clear hbox cb
  go_wp2_with fail
  go_loopw [3, 4] (fun t3 t4 wr => ∃ (zs : List (Bool × Value × Nat)) (m : Nat) (s2 : ByteArray) (b2 : Bool), t4 = .int .u64 (m : Int) ∧ m < 18446744073709551616 ∧ zs.length ≤ 200 ∧
      wr.ownsRow (w.heap.size + 1) 47 2 t3 zs.length (flatZ zs) ∧ Hid (∀ z ∈ zs, NN (w.heap.size + 1) wr z.2.1 z.2.2) ∧ Rdr wr g s2 b2 ∧ s2.size ≤ 1000000 ∧ w.grownBy wr (some g) ∧
      Blk wr w.heap.size 66 [.pointer (some ⟨g, 0, none⟩)] ∧
      Hid (200 < n ∧ zs = [] ∧ m = n ∧ s2 = s1 ∧ b2 = b1 ∨ n ≤ 200 ∧ zs.length + m ≤ n ∧ placeF n s1 b1 = (zs.map (fun z => (z.1, z.2.2)) ++ (placeF m s2 b2).1, (placeF m s2 b2).2))) (fun _ t4 _ => (intOf t4).toNat)
  case atStart =>
    refine ⟨[], n, s1, b1, rfl, hn64, by simp, World.ownsRow_nil _ _ _ _, by intro z hz; simp at hz, hr2, hs1, hgr2, hbox2, ?_⟩
    by_cases h : 200 < n
    · exact .inl ⟨h, rfl, rfl, rfl, rfl⟩
    · exact .inr ⟨by omega, by simp, by simp⟩
  case round =>
    obtain ⟨zs, m, s2, b2, rfl, hm64, hzl, hrow, HZ, hr, hs2, hgr, hbx, HP⟩ := hrel
    obtain ⟨qa, qc, rfl⟩ := own_slice hrow
    have cb := hbx.cell 0
    simp only [List.getElem?_cons_zero] at cb
    have hgwr : g < wr.heap.size := Blk.lt hr
    have hbwr : w.heap.size < wr.heap.size := hbx.lt
    have hout : (m = 0 ∨ 200 < m ∨ b2 = true) → GetP w g pr (.returned (.slice qa zs.length qc)) wr := by
      intro hc
      have h1 : zs.map (fun z => (z.1, z.2.2)) = pr.1 ∧ pr.2 = (s2, b2) := by
        rw [HPR.out]
        rcases HP.out with ⟨h1, rfl, rfl, rfl, rfl⟩ | ⟨h1, h2, h3⟩
        · rw [if_pos h1]; exact ⟨rfl, rfl⟩
        · rw [if_neg (by omega), h3]
          have : placeF m s2 b2 = ([], s2, b2) := by
            rcases hc with rfl | hc | rfl
            · rfl
            · omega
            · exact placeF_bad _ _
          rw [this]
          exact ⟨by simp, rfl⟩
      refine ⟨_, zs, rfl, own_ge hrow (by omega), fun z hz => (HZ.out z hz).ge (by omega), h1.1, hzl, ?_⟩
      rw [h1.2]
      exact ⟨hr, hgr⟩
    have HO := Lib.hid hout
    clear hout
    by_cases h0 : m = 0
    · subst h0
      go_wp2_with fail
      go_ret
      exact HO.out (by simp)
    by_cases h2 : 200 < m
    · go_wp2_with fail
      go_ret
      exact HO.out (by simp [h2])
    cases b2 with
    | true =>
      go_wp2_with fail
      refine (isbad_any g s2 true wr hr).mono ?_
      rintro e _ ⟨rfl, rfl⟩
      go_wp2_with fail
      go_ret
      exact HO.out (by simp)
    | false =>
      have htext := text_any g s2 false 65536 wr (by unfold maxLen; omega) (by omega) (by omega) hr
      obtain ⟨m', rfl⟩ : ∃ m', m = m' + 1 := ⟨m - 1, by omega⟩
      have hstep : placeF (m' + 1) s2 false = _ := placeF_succ m' s2
      have hb3 := textR_bd s2 false 65536
      generalize textR s2 false 65536 = tr at *
      obtain ⟨t, s3, b3⟩ := tr
      simp only [] at htext hstep hb3
      obtain ⟨ht3, hs3⟩ := hb3
      generalize hpv : zparV t.data.toList = pv at hstep
      obtain ⟨pb, pn⟩ := pv
      have HT := Lib.hid htext
      have HPV := Lib.hid hpv
      have HS := Lib.hid hstep
      clear htext hpv hstep HO
      go_wp2_with fail
      refine (isbad_any g s2 false wr hr).mono ?_
      rintro e _ ⟨rfl, rfl⟩
      go_wp2_with fail
      refine HT.out.mono ?_
      rintro e w3 ⟨rfl, hr3, hg3⟩
      have hrow3 := own_grown hrow hg3 (by omega)
      have hz3 : ∀ z ∈ zs, NN (w.heap.size + 1) w3 z.2.1 z.2.2 := fun z hz => NN.grown (HZ.out z hz) hg3 (by omega)
      have hbx3 := hbx.grown hg3 (by intro e; injection e with e; omega)
      have hgr3 := grown_trans hgr hg3
      go_wp2_with fail
      refine (zparse_any t w3 (by unfold maxLen; omega)).mono ?_
      rintro e w4 ⟨hpz, hb4⟩
      obtain ⟨pa, pc, pk, rfl, hnn⟩ := zparsed_val hpz
      rw [HPV.out] at hnn ⊢
      simp only [] at hnn ⊢
      have hsz3 := hg3.size
      have hrow4 := own_below hrow3 hb4
      have hz4 : ∀ z ∈ zs, NN (w.heap.size + 1) w4 z.2.1 z.2.2 := fun z hz => (hz3 z hz).below hb4
      have hbx4 := hbx3.below hb4 hbx3.lt
      have hgr4 := grown_trans hgr3 (grown_of_below hb4 _)
      have hr4 := hr3.below hb4 (Blk.lt hr3)
      have hsz4 := hb4.size
      have hnn4 := hnn.ge (show w.heap.size + 1 ≤ w3.heap.size by omega)
      have HZ4 := Lib.hid hz4
      clear hz4 hz3 hrow3 hbx3 hrow hbx cb hpz
      go_wp2_with (at_builtin; refine app_int (w4.alloc (.cells #[.bool pb, .slice pa (nl pn) pc] 47)) rfl _ _ rfl (w.heap.size + 1) (.slice qa zs.length qc) zs.length (flatZ zs) pb pa (nl pn) pc rfl (hrow4.alloc _) (w4.heap.size + 1) (by simp) rfl (by omega) (by simp; omega) ?_; intro g' cap' w5 hown5 hgr5 hb5)
      have hr5 : Rdr w5 g s3 b3 := Blk.below (Blk.alloc hr4 _) hb5 (by omega)
      have hbx5 : Blk w5 w.heap.size 66 [.pointer (some ⟨g, 0, none⟩)] := (hbx4.alloc _).below hb5 (Nat.lt_succ_self _)
      have hgrA := grown_trans hgr4 (grown_of_below ((Below.refl w4.heap.size w4).alloc (Nat.le_refl _) (.cells #[.bool pb, .slice pa (nl pn) pc] 47)) (some g))
      have hgr5' : w.grownBy w5 (some g) := ⟨hb5.os.trans hgrA.os, hb5.tape.trans hgrA.tape, hb5.output.trans hgrA.output, Nat.le_trans hgrA.size hb5.size, fun i hi hne => (hb5.block i (by omega)).trans (hgrA.block i hi hne)⟩
      have hkeep : ∀ (v : Value) (n : Nat), NN (w.heap.size + 1) w4 v n → NN (w.heap.size + 1) w5 v n := by
        intro v n hv
        have h1 := (hv.below ((Below.refl w4.heap.size w4).alloc (Nat.le_refl _) (.cells #[.bool pb, .slice pa (nl pn) pc] 47)))
        have h2 := h1.below ((Below.refl _ _).alloc (Nat.le_refl _) (.cells #[.bool pb, .slice pa (nl pn) pc] 47))
        exact nn_row h2 hgr5 (nn_ne hv hrow4)
      have hz5 : ∀ z ∈ zs ++ [(pb, Value.slice pa (nl pn) pc, pn)], NN (w.heap.size + 1) w5 z.2.1 z.2.2 := by
        intro z hz
        rcases List.mem_append.1 hz with hz | hz
        · exact hkeep _ _ (HZ4.out z hz)
        · obtain rfl := List.mem_singleton.1 hz
          exact hkeep _ _ hnn4
      have hlen : (zs ++ [(pb, Value.slice pa (nl pn) pc, pn)]).length = zs.length + 1 := by simp
      have hP : 200 < n ∧ zs ++ [(pb, Value.slice pa (nl pn) pc, pn)] = [] ∧ m' = n ∧ s3 = s1 ∧ b3 = b1 ∨ n ≤ 200 ∧ (zs ++ [(pb, Value.slice pa (nl pn) pc, pn)]).length + m' ≤ n ∧ placeF n s1 b1 = ((zs ++ [(pb, Value.slice pa (nl pn) pc, pn)]).map (fun z => (z.1, z.2.2)) ++ (placeF m' s3 b3).1, (placeF m' s3 b3).2) := by
        right
        rcases HP.out with ⟨h1, h2, h3, -⟩ | ⟨h1, h4, h3⟩
        · omega
        · refine ⟨h1, by omega, ?_⟩
          rw [h3, HS.out]
          simp
      have hzl5 : (zs ++ [(pb, Value.slice pa (nl pn) pc, pn)]).length ≤ 200 := by
        rcases hP with ⟨h1, h2, -⟩ | ⟨h1, h4, -⟩
        · rw [h2]; decide
        · omega
      have hown5' : w5.ownsRow (w.heap.size + 1) 47 2 (.slice (some ⟨g', 0, none⟩) (zs.length + 1) cap') (zs ++ [(pb, Value.slice pa (nl pn) pc, pn)]).length (flatZ (zs ++ [(pb, Value.slice pa (nl pn) pc, pn)])) := by
        rw [hlen, flatZ_snoc]
        exact hown5
      have FF := Lib.hid (And.intro hz5 (And.intro hP hown5'))
      have HL := Lib.hid hzl5
      clear hz5 hP hkeep hown5' hlen hzl5
      go_wp2_with fail
      go_roundw
      case rel => exact ⟨_, m', s3, b3, by simp, by omega, HL.out, FF.out.2.2, FF.out.1, hr5, by omega, hgr5', hbx5, FF.out.2.1⟩
      case measure => simp [intOf]
end Go.Proofs.YtpnllalefpkcjaaGreatDoor.Store
