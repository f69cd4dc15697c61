/-
Contract of the program's PutMark.
-/
import Derived.Test.YtpnllalefpkcjaaGreatDoorStoreRMark
namespace Go.Proofs.YtpnllalefpkcjaaGreatDoor.Store
open Go.RowKit Nat_

theorem isInts_two (w : World) (n r : Int) (h0 : 0 ≤ n) (h1 : n < 18446744073709551616) (h2 : 0 ≤ r) (h3 : r < 18446744073709551616) (e : TypeId) : IsInts .u64 (w.alloc (.cells #[.int .u64 n, .int .u64 r] e)) (some ⟨w.heap.size, 0, none⟩) 2 2 [n, r] := by
  refine ⟨⟨rfl, Nat.le_refl _, by decide, fun _ => ⟨w.heap.size, 0, rfl, by simp, fun j u hu => ?_⟩⟩, fun m hm => ?_⟩
  · rw [Nat.zero_add]
    have := (Blk.new w e [.int .u64 n, .int .u64 r]).cell j
    rw [this]
    exact hu
  · simp at hm
    rcases hm with rfl | rfl
    · exact WalkArith.wf_u64 (by omega)
    · exact WalkArith.wf_u64 (by omega)
theorem encB_two (n r : Nat) : Notch.encB [n, r] = Notch.encB [n] ++ Notch.encB [r] := by
  apply ByteArray.ext
  apply Array.ext'
  simp [Notch.encB, Notch.encAll]
theorem stold3_any (x y z : ByteArray) (W : World) (hx : x.size ≤ 1000000) (hy : y.size ≤ 1000000) (hz : z.size ≤ 1000000) (V : World) (hV : V = W.alloc (.cells #[.string x, .string y, .string z] 9) ∨ V = (W.alloc (.cells #[.string x, .string y, .string z] 9)).drew) :
    Calls Tryz.prog 19 #[.slice (some ⟨W.heap.size, 0, none⟩) 3 3] V fun e w' => e = .returned (toldV (x ++ y ++ z)) ∧ Below W.heap.size W w' := by
  have hb0 : Below W.heap.size W V := by
    rcases hV with rfl | rfl
    · exact (Below.refl _ _).alloc (Nat.le_refl _) _
    · exact ((Below.refl _ _).alloc (Nat.le_refl _) _).drew
  have hblk : Blk V W.heap.size 9 [.string x, .string y, .string z] := by
    rcases hV with rfl | rfl
    · exact Blk.new W _ [_, _, _]
    · exact (Blk.new W _ [_, _, _]).drew
  have hj : Lib.join ([x, y, z].map (·.data.toList)) (⟨#[]⟩ : ByteArray).data.toList = x.data.toList ++ y.data.toList ++ z.data.toList := by simp [Lib.join]
  have c := Tryz.strings_Join W.heap.size 0 3 [x, y, z] ⟨#[]⟩ V (fun j u hu => by
    rw [Nat.zero_add, hblk.cell]
    match j, hu with
    | 0, hu => simp at hu; simp [hu]
    | 1, hu => simp at hu; simp [hu]
    | 2, hu => simp at hu; simp [hu]) hblk.lt (by simp) (by simp) (by rw [hj, List.length_append, List.length_append]; simp; omega)
  rw [hj] at c
  have hxy : (⟨(x.data.toList ++ y.data.toList ++ z.data.toList).toArray⟩ : ByteArray) = x ++ y ++ z := by
    apply ByteArray.ext
    apply Array.ext'
    simp
  rw [hxy] at c
  have hsz : (x ++ y ++ z).size ≤ 3000000 := by rw [ByteArray.size_append, ByteArray.size_append]; omega
  generalize x ++ y ++ z = t at *
  have C := Lib.hid c
  clear c hxy hj hblk hV
  unfold toldV
  by_cases h : 65536 < t.size
  · rw [if_pos h]
    go_enter Tryz.func19, Tryz.ntmps19
    go_wp2_with fail
    refine C.out.mono ?_
    rintro e w' ⟨rfl, hb⟩
    go_wp2_with fail
    go_ret2
    exact ⟨rfl, hb0.trans (hb.mono hb0.size)⟩
  · rw [if_neg h]
    go_enter Tryz.func19, Tryz.ntmps19
    go_wp2_with fail
    refine C.out.mono ?_
    rintro e w' ⟨rfl, hb⟩
    go_wp2_with fail
    go_ret2
    exact ⟨rfl, hb0.trans (hb.mono hb0.size)⟩
set_option maxRecDepth 100000 in
set_option maxHeartbeats 4000000 in
theorem putMark_any (n r : Nat) (a : Option Addr) (len cap : Nat) (zs : List (Bool × Value × Nat)) (t : ByteArray) (w : World) (hn : n < 18446744073709551616) (hr : r < 18446744073709551616) (h : Zs w a len zs) (hlen : len ≤ 1000000) :
    Calls Tryz.prog 8 #[.agg #[.int .u64 (n : Int), .int .u64 (r : Int), .slice a len cap, .string t]] w fun e w' => e = .returned (markV n r zs t) ∧ Below w.heap.size w w' := by
  unfold markV
  have hal := (Below.refl w.heap.size w).alloc (Nat.le_refl _) (.cells #[.int .u64 (n : Int), .int .u64 (r : Int), .slice a len cap, .string t] 28)
  have hm := may_any a len cap zs _ (h.below hal) hlen
  cases hmb : mayB zs with
  | false =>
    rw [if_pos rfl]
    rw [hmb] at hm
    have HM := Lib.hid hm
    clear hm hn hr
    go_enter Tryz.func8, Tryz.ntmps8
    go_wp2_with fail
    refine HM.out.mono ?_
    rintro e w1 ⟨rfl, hb⟩
    go_wp2_with fail
    go_ret2
    exact ⟨rfl, hal.trans (hb.mono (by simp))⟩
  | true =>
    rw [if_neg (by simp)]
    rw [hmb] at hm
    have HM := Lib.hid hm
    clear hm
    by_cases htb : 65536 < t.size
    · have : toldV (markB n r zs t) = .tuple #[.string ByteArray.empty, .int .i64 3] := by
        unfold toldV
        rw [if_pos]
        have : t.size ≤ (Notch.textB t).size := by
          rw [← Notch.textB_eq, ByteArray.size_append]; omega
        unfold markB
        simp only [ByteArray.size_append]
        omega
      rw [this]
      clear this hn hr
      go_enter Tryz.func8, Tryz.ntmps8
      go_wp2_with fail
      refine HM.out.mono ?_
      rintro e w1 ⟨rfl, hb⟩
      have hblk := Blk.below (Blk.new w 28 [.int .u64 (n : Int), .int .u64 (r : Int), .slice a len cap, .string t]) hb (by simp)
      have c3 := hblk.cell 3
      have c4 := hblk.lt
      simp only [List.getElem?_cons_zero, List.getElem?_cons_succ] at c3
      go_wp2_with fail
      go_ret2
      exact ⟨rfl, hal.trans (hb.mono (by simp))⟩
    unfold mayB at hmb
    rw [Bool.and_eq_true, List.all_eq_true] at hmb
    obtain ⟨m1, m2⟩ := hmb
    have hl200 : len ≤ 200 := by have := of_decide_eq_true m1; have := h.1; omega
    have hz64 : ∀ z ∈ zs, nl z.2.2 ≤ 64 := fun z hz => of_decide_eq_true (m2 z hz)
    clear m1 m2
    have hz1 := Notch.encB_size n hn
    have hz1' := Notch.encB_size r hr
    have hz2 : (txtB (placeL zs)).size ≤ 1000000 := by
      show (placeL zs).toArray.size ≤ _
      rw [List.size_toArray]
      have := place_len zs (by have := h.1; omega) hz64
      have := h.1
      omega
    have hz3 := textB_size t (by omega)
    have hz4 : (Notch.encB [n, r]).size ≤ 18 := by rw [encB_two, ByteArray.size_append]; omega
    have hme : markB n r zs t = Notch.encB [n, r] ++ txtB (placeL zs) ++ Notch.textB t := by rw [encB_two]; rfl
    rw [hme]
    clear hme hz1 hz1'
    have hnum0 : ∀ W V, V = W.alloc (.cells #[.int .u64 (n : Int), .int .u64 (r : Int)] 26) ∨ V = (W.alloc (.cells #[.int .u64 (n : Int), .int .u64 (r : Int)] 26)).drew → Calls Tryz.prog 20 #[.slice (some ⟨W.heap.size, 0, none⟩) 2 2] V fun e w' => e = .returned (.string (Notch.encB [n, r])) ∧ Below W.heap.size W w' := fun W V hV => by
      have hi := isInts_two W (n : Int) (r : Int) (by omega) (by omega) (by omega) (by omega) 26
      have hb1 := (Below.refl W.heap.size W).alloc (Nat.le_refl _) (.cells #[.int .u64 (n : Int), .int .u64 (r : Int)] 26)
      rcases hV with rfl | rfl
      · refine (Notch.nums_any _ 2 2 [(n : Int), (r : Int)] _ hi (by decide)).mono ?_
        rintro e w' ⟨rfl, hb2⟩
        exact ⟨by simp, hb1.trans (hb2.mono hb1.size)⟩
      · refine (Notch.nums_any _ 2 2 [(n : Int), (r : Int)] (W.alloc (.cells #[.int .u64 (n : Int), .int .u64 (r : Int)] 26)).drew hi (by decide)).mono ?_
        rintro e w' ⟨rfl, hb2⟩
        exact ⟨by simp, hb1.drew.trans (hb2.mono hb1.drew.size)⟩
    have hpl0 := fun W (hb : Below w.heap.size w W) => place_any a len cap zs W (h.below hb) hl200 hz64
    have htx0 := fun W => Notch.putText_any t W (by omega)
    obtain ⟨x, hx⟩ : ∃ x, Notch.encB [n, r] = x := ⟨_, rfl⟩
    obtain ⟨y, hy⟩ : ∃ y, txtB (placeL zs) = y := ⟨_, rfl⟩
    obtain ⟨u, hu⟩ : ∃ u, Notch.textB t = u := ⟨_, rfl⟩
    rw [hx, hy, hu]
    rw [hx] at hz4 hnum0
    rw [hy] at hz2 hpl0
    rw [hu] at hz3 htx0
    have htold0 := fun W V (hV : V = W.alloc (.cells #[.string x, .string y, .string u] 9) ∨ V = (W.alloc (.cells #[.string x, .string y, .string u] 9)).drew) => stold3_any x y u W (by omega) hz2 (by omega) V hV
    obtain ⟨z, hz⟩ : ∃ z, x ++ y ++ u = z := ⟨_, rfl⟩
    rw [hz] at htold0
    rw [hz]
    have hret : ∃ R1 R2, toldV z = .tuple #[.string R1, .int .i64 R2] := by
      unfold toldV
      split
      · exact ⟨_, _, rfl⟩
      · exact ⟨_, _, rfl⟩
    obtain ⟨R1, R2, hret⟩ := hret
    rw [hret] at htold0
    rw [hret]
    clear hret hz
    have HN0 := Lib.hid hnum0
    have HP0 := Lib.hid hpl0
    have HT0 := Lib.hid htx0
    have HJ0 := Lib.hid htold0
    have HAL := Lib.hid hal
    clear hnum0 hpl0 htx0 htold0 hx hy hu h hal hn hr
    obtain ⟨G, hG⟩ : ∃ G, w.heap.size = G := ⟨_, rfl⟩
    have HG := Lib.hid hG
    go_enter Tryz.func8, Tryz.ntmps8
    go_wp2_with fail
    clear hG
    refine HM.out.mono ?_
    rintro e w0 ⟨rfl, hb⟩
    have hB0 : Below w.heap.size w w0 := HAL.out.trans (hb.mono (by simp))
    have hblk : Blk w0 G 28 [.int .u64 (n : Int), .int .u64 (r : Int), .slice a len cap, .string t] := by
      rw [← HG.out]
      exact Blk.below (Blk.new w _ [_, _, _, _]) hb (by simp)
    have hF : ∀ W, Below w0.heap.size w0 W → W.cell? ⟨G, 0, none⟩ = some (.int .u64 (n : Int)) ∧ W.cell? ⟨G, 1, none⟩ = some (.int .u64 (r : Int)) ∧ W.cell? ⟨G, 2, none⟩ = some (.slice a len cap) ∧ W.cell? ⟨G, 3, none⟩ = some (.string t) ∧ G < W.heap.size ∧ Below w.heap.size w W := fun W hb => by
      have := hblk.below hb hblk.lt
      exact ⟨this.cell 0, this.cell 1, this.cell 2, this.cell 3, this.lt, bel_tr hB0 hb⟩
    have F := Lib.hid hF
    have hBd : Below w0.heap.size w0 w0.drew := (Below.refl _ _).drew
    clear hb hF hblk hB0
    obtain ⟨c0, c1, c2, c3, c4, -⟩ := F.out _ (Below.refl _ _)
    obtain ⟨d0, d1, d2, d3, d4, -⟩ := F.out _ hBd
    have F1 := Lib.hid (fun W (hb : Below w0.heap.size w0 W) V hV => (HN0.out W V hV).mono (fun e w' (h : e = .returned (.string x) ∧ Below W.heap.size W w') => (show e = .returned (.string x) ∧ Below w0.heap.size w0 w' from ⟨h.1, bel_tr hb h.2⟩)))
    have F2 := Lib.hid (fun W (hb : Below w0.heap.size w0 W) => (HP0.out W (F.out W hb).2.2.2.2.2).mono (fun e w' (h : e = .returned (.string y) ∧ Below W.heap.size W w') => (show e = .returned (.string y) ∧ Below w0.heap.size w0 w' from ⟨h.1, bel_tr hb h.2⟩)))
    have F3 := Lib.hid (fun W (hb : Below w0.heap.size w0 W) => (HT0.out W).mono (fun e w' (h : e = .returned (.string u) ∧ Below W.heap.size W w') => (show e = .returned (.string u) ∧ Below w0.heap.size w0 w' from ⟨h.1, bel_tr hb h.2⟩)))
    have F4 := Lib.hid (fun W (hb : Below w0.heap.size w0 W) V hV => (HJ0.out W V hV).mono (fun e w' (h : e = .returned (.tuple #[.string R1, .int .i64 R2]) ∧ Below W.heap.size W w') => (show e = .returned (.tuple #[.string R1, .int .i64 R2]) ∧ Below w0.heap.size w0 w' from ⟨h.1, bel_tr hb h.2⟩)))
    have HSF := Lib.hid (fun W (hb : Below w0.heap.size w0 W) => (show W.cell? ⟨G, 0, none⟩ = some (.int .u64 (n : Int)) ∧ W.cell? ⟨G, 1, none⟩ = some (.int .u64 (r : Int)) ∧ W.cell? ⟨G, 2, none⟩ = some (.slice a len cap) ∧ W.cell? ⟨G, 3, none⟩ = some (.string t) ∧ Below w0.heap.size w0 W from by
      obtain ⟨a0, a1, a2, a3, -, -⟩ := F.out W hb
      exact ⟨a0, a1, a2, a3, hb⟩))
    go_wp2_with fail
    go_region_held3 (fun W => W.cell? ⟨G, 0, none⟩ = some (.int .u64 (n : Int)) ∧ W.cell? ⟨G, 1, none⟩ = some (.int .u64 (r : Int)) ∧ W.cell? ⟨G, 2, none⟩ = some (.slice a len cap) ∧ W.cell? ⟨G, 3, none⟩ = some (.string t) ∧ Below w0.heap.size w0 W) ((first | (exact HSF.out _ (by assumption)) | (exact HSF.out _ hBd) | (exact HSF.out _ (Below.refl _ _)) | (exact HSF.out _ (below_al (by first | (exact hBd) | assumption) _))))
      (first
      | (go_at_call 20; (with_reducible refine (F1.out _ (Below.refl _ _) _ (.inr rfl)).mono ?_); rintro e wn ⟨rfl, hBn⟩)
      | (go_at_call 21; (with_reducible refine (F2.out _ (by first | assumption | (exact Below.refl _ _))).mono ?_); rintro e wt ⟨rfl, hBt⟩)
      | (go_at_call 25; (with_reducible refine (F3.out _ (by first | assumption | (exact Below.refl _ _))).mono ?_); rintro e wu ⟨rfl, hBu⟩)
      | (go_at_call 19; (with_reducible refine (F4.out _ hBu _ (.inl rfl)).mono ?_); rintro e wj ⟨rfl, hBj⟩))
    all_goals (have hfin := (F.out _ hBj).2.2.2.2.2; clear F F1 F2 F3 F4 HSF HN0 HP0 HT0 HJ0; go_wp2_with fail; go_ret2)
    all_goals exact ⟨rfl, by first | exact hfin | exact hfin.drew⟩
end Go.Proofs.YtpnllalefpkcjaaGreatDoor.Store
