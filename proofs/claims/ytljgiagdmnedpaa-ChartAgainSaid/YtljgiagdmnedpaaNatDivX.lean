/-
nat.Div: the long way.
-/
import Derived.Test.YtljgiagdmnedpaaNatDivW
import Derived.WalkMore
namespace Go.Proofs.Ytljgiagdmnedpaa.Nat_
open Go.RowKit Go.Shelf

set_option maxRecDepth 100000 in
set_option maxHeartbeats 8000000 in
theorem div_more (v u : Value) (x y : Nat) (w : World) (hv : Nm w v x) (hu : Nm w u y) (hx : x < Lim) (hy : y < Lim) (hle : y ≤ x) (h2 : 2 ≤ nl y) :
    Calls Try.prog 51 #[v, u] w fun e w' => DivTold w.heap.size w' x y e ∧ Below w.heap.size w w' := by
  have hy0 : y ≠ 0 := fun h => by rw [h] at h2; exact absurd h2 (by decide)
  have hxk : nl y ≤ nl x := by
    have h3 := (limbs_len (nl x) x).1 (Nat.le_refl _)
    exact (limbs_len (nl x) y).2 (Nat.lt_of_le_of_lt hle h3)
  obtain ⟨ml, top, hmt, htop, hmll⟩ := limbs_last y hy0
  have htop64 : top < 18446744073709551616 := limbs_lt y top (by rw [hmt]; simp)
  have hnby : nbits y = 64 * ml.length + nbits top := by
    have := nbits_top ml top (fun z hz => limbs_lt y z (by rw [hmt]; simp [hz])) htop
    rwa [← hmt, val_limbs] at this
  have hnt : 1 ≤ nbits top ∧ nbits top ≤ 64 := by
    obtain ⟨g1, g2, g3⟩ := nbits_spec top (by omega)
    refine ⟨g3, ?_⟩
    rcases Nat.lt_or_ge 64 (nbits top) with h | h
    · have : 2 ^ 64 ≤ 2 ^ (nbits top - 1) := Nat.pow_le_pow_right (by decide) (by omega)
      omega
    · exact h
  have hdt : digit (limbs y) ml.length = top := by rw [hmt]; exact digit_in _ _ _ (by simp)
  obtain ⟨n, hn⟩ : ∃ n, 64 - nbits top = n := ⟨_, rfl⟩
  have hlead := leadn_any top htop htop64
  rw [hn] at hlead
  have hnV := norm_top y (nl y) hy0 (by omega) (by omega)
  have hn2 : 64 * nl y - nbits y = n := by omega
  rw [hn2] at hnV
  have hn63 : n ≤ 63 := by omega
  have hnlV : nl (y * 2 ^ n) = nl y := by
    have g1 := (limbs_len (nl y) (y * 2 ^ n)).2 hnV.2
    have g2 : ¬ nl (y * 2 ^ n) ≤ nl y - 1 := by
      intro h
      have := (limbs_len (nl y - 1) (y * 2 ^ n)).1 h
      have h3 : 18446744073709551616 ^ (nl y - 1) ≤ 2 ^ 63 * 18446744073709551616 ^ (nl y - 1) := Nat.le_mul_of_pos_left _ (by decide)
      exact absurd (Nat.lt_of_lt_of_le this h3) (by have := hnV.1; omega)
    unfold nl at *
    omega
  have hxp := (limbs_len (nl x) x).1 (Nat.le_refl _)
  go_enter Try.func51, Try.ntmps51
  go_wp2_with fail
  refine wp_scope_straight ?_
  go_wp2_with fail
  refine (normal_any v x _ hv).mono ?_
  rintro e w1 ⟨a1, c1, rfl, hn1, hb1⟩
  go_wp2_with fail
  refine (normal_any u y _ (hu.below hb1)).mono ?_
  rintro e w2 ⟨a2, c2, rfl, hn2', hb2⟩
  have hn1' := hn1.below hb2
  go_wp2_with fail
  refine (long2_no _ _ _ _ _ _ _ rfl hn1'.nm hn2'.nm hx hy).mono ?_
  rintro e w3 ⟨rfl, hb3⟩
  have hb3' := ((Below.refl w2.heap.size w2).alloc (Nat.le_refl _) (.cells #[.slice a1 (nl x) c1, .slice a2 (nl y) c2] 31)).trans (hb3.mono (by simp))
  have hbW : Below w.heap.size w w3 := (hb1.trans (hb2.mono hb1.size)).trans (hb3'.mono (Nat.le_trans hb1.size hb2.size))
  have hm1 : Lb w3 (.slice a1 (nl x) c1) (limbs x) := hn1'.1.lb.below hb3'
  have hm2 : Lb w3 (.slice a2 (nl y) c2) (limbs y) := hn2'.1.lb.below hb3'
  have hs1 := (nl_iff x).2 hx
  have hs2 := (nl_iff y).2 hy
  have HN := Lib.hid (And.intro (show Nm w3 (.slice a1 (nl x) c1) x from hn1'.nm.below hb3') (show Nm w3 (.slice a2 (nl y) c2) y from hn2'.nm.below hb3'))
  have hcm : ¬ cmpN x y < 0 := by unfold cmpN; rw [if_neg (by omega)]; split <;> simp
  have hlnx : (limbs x).length = nl x := rfl
  have hlny : (limbs y).length = nl y := rfl
  have HX := Lib.hid (And.intro hxp (And.intro hnV (And.intro hnlV (And.intro hx hy))))
  have HY := Lib.hid (And.intro hle (And.intro hy0 (And.intro hlnx hlny)))
  clear hb3 hb3' hn1 hn1' hn2' hb1 hb2 hv hu hle hmt hnby hnt hy0 hnV hnlV hxp hn2 hn hx hy hlnx hlny
  generalize nl x = nx at *
  generalize nl y = k at *
  obtain ⟨k1, hk1⟩ : ∃ k1, ml.length = k1 := ⟨_, rfl⟩
  rw [hk1] at hmll hdt
  have qk1 : (k : Int) - 1 = (k1 : Int) := by omega
  clear hk1
  have hcm0 := cmp_any (.slice a1 nx c1) (.slice a2 k c2) x y w3 HN.out.1 HN.out.2
  have HC := Lib.hid hcm0
  clear hcm0 HN
  generalize cmpN x y = cm at *
  go_wp2_with fail
  refine HC.out.mono ?_
  rintro e w4 ⟨rfl, hb4⟩
  have hm1 := hm1.below hb4
  have hm2 := hm2.below hb4
  have hbW := hbW.trans (hb4.mono hbW.size)
  obtain ⟨b2, off2, rfl, hbw2⟩ := lb_addr hm2 (by rw [HY.out.2.2.2]; omega)
  have hct := lb_cell hm2 k1 (by rw [HY.out.2.2.2]; omega)
  rw [hdt] at hct
  have HM := Lib.hid (And.intro hm1 hm2)
  have HW := Lib.hid hbW
  clear hm1 hm2 hbW hb4 HC hdt
  go_wp2_with (go_at_call 62; refine (hlead _).mono ?_; rintro e w5 ⟨rfl, rfl⟩)
  refine (shift_lb _ (limbs x) n w5 HM.out.1 (by omega) (by rw [HY.out.2.2.1]; omega)).mono ?_
  rw [HY.out.2.2.1]
  rintro e w6 ⟨rfl, ⟨U, hu1, hu2, hu3, hub⟩, hb6⟩
  obtain ⟨G, hG⟩ : ∃ G, w5.heap.size = G := ⟨_, rfl⟩
  rw [hG] at hub ⊢
  rw [val_limbs] at hu3
  have hm6 := HM.out.2.below hb6
  have HGw := Lib.hid (show w.heap.size ≤ G from by rw [← hG]; exact HW.out.size)
  have HW6 := Lib.hid (HW.out.trans (hb6.mono HW.out.size))
  clear hG hb6 HM hct
  go_wp2_with fail
  refine (shift_lb _ (limbs y) n w6 hm6 (by omega) (by rw [HY.out.2.2.2]; omega)).mono ?_
  rw [HY.out.2.2.2]
  rintro e w7 ⟨rfl, ⟨O, ho1, ho2, ho3, hob⟩, hb7⟩
  rw [val_limbs] at ho3
  have hub7 := hub.below hb7 hub.lt
  have hLO := lb_of_blk hob (by omega) ho2 _ ho1
  have hGl := hub.lt
  obtain ⟨B7, hB7⟩ : ∃ B, w7.heap.size = B := ⟨_, rfl⟩
  have HB7 := Lib.hid (And.intro hB7 (show G < B7 from by rw [← hB7]; have := hb7.size; omega))
  have HW7 := Lib.hid (HW6.out.trans (hb7.mono HW6.out.size))
  have hno := normal_any _ (y * 2 ^ n) w7 ⟨O, hLO, ho3, by omega⟩
  rw [HX.out.2.2.1] at hno
  have HNO := Lib.hid hno
  clear hno hLO hob ho1 ho2 ho3 hb7 hub hB7 hm6 hGl
  go_wp2_with fail
  refine HNO.out.mono ?_
  rintro e w8 ⟨a8, c8, rfl, hn8, hb8⟩
  rw [HB7.out.1] at hn8
  have hub8 := hub7.below hb8 hub7.lt
  have HW8 := Lib.hid (HW7.out.trans (hb8.mono HW7.out.size))
  have hB8 : B7 ≤ w8.heap.size := by rw [← HB7.out.1]; exact hb8.size
  obtain ⟨q, hq⟩ : ∃ q : Nat, (nx : Int) + 1 - (k : Int) = (q : Int) := ⟨nx + 1 - k, by omega⟩
  obtain ⟨Z, hZ⟩ : ∃ Z : List Value, Z = (List.replicate q 0).map limbV := ⟨_, rfl⟩
  have hmk : ∀ V : World, (Instr.makeSlice 31 (.int .i64 (q : Int)) (.int .i64 (q : Int))).run Try.prog V = .ok (.slice (some ⟨V.heap.size, 0, none⟩) q q) (V.alloc (.cells Z.toArray 54)) := by
    intro V
    have h := run_make_row' (P := Try.prog) 31 54 _ 8 Try.underlying31 Try.limbInfo rfl .i64 .i64 q (by omega) (by omega) V
    rw [toList_made] at h
    rw [hZ]
    simpa [limbV] using h
  have HZ := Lib.hid hZ
  have hwq := IntWalk.i64_in (q : Int) (by omega)
  have HU := Lib.hid (And.intro hu1 (And.intro hu2 hu3))
  clear hb8 hub7 HNO hZ hu1 hu2 hu3
  go_wp2_with fail
  have hQ0 : Blk (w8.alloc (.cells Z.toArray 54)) w8.heap.size 54 ((List.replicate q 0).map limbV) := by
    rw [← HZ.out]; exact Blk.new _ _ _
  have hu9 : Blk (w8.alloc (.cells Z.toArray 54)) G 54 (U.map limbV) := hub8.alloc _
  have hn9 : NN B7 (w8.alloc (.cells Z.toArray 54)) (.slice a8 k c8) (y * 2 ^ n) := nn_alloc hn8 _
  have hb9 : Below w.heap.size w (w8.alloc (.cells Z.toArray 54)) := HW8.out.alloc HW8.out.size _
  obtain ⟨H, hH⟩ : ∃ H, w8.heap.size = H := ⟨_, rfl⟩
  rw [hH] at hQ0 ⊢
  have HH := Lib.hid (And.intro (show B7 ≤ H from by rw [← hH]; exact hB8) (show w.heap.size ≤ H from by rw [← hH]; exact HW8.out.size))
  generalize w8.alloc (.cells Z.toArray 54) = w9 at *
  have hqk : q = nx + 1 - k := by omega
  have HQK := Lib.hid hqk
  have HD0 : DivAt (x * 2 ^ n) (y * 2 ^ n) k (nx + 1) U (List.replicate q 0) := by
    rw [hqk]
    exact DivAt.start HX.out.1 hn63 HX.out.2.1.1 (by omega) (by omega) HU.out.1 HU.out.2.1 HU.out.2.2
  have HD := Lib.hid HD0
  have hul := HU.out.1
  obtain ⟨M, hM⟩ : ∃ M, limbs (y * 2 ^ n) = M := ⟨_, rfl⟩
  have hMl : M.length = k := by rw [← hM]; exact HX.out.2.2.1
  have hMlt : ∀ z ∈ M, z < 18446744073709551616 := by rw [← hM]; exact limbs_lt _
  have hMv : val M = y * 2 ^ n := by rw [← hM]; exact val_limbs _
  have hVpos : 0 < y * 2 ^ n := Nat.mul_pos (Nat.pos_of_ne_zero HY.out.2.1) (Nat.pow_pos (by decide))
  obtain ⟨k2, qk2⟩ : ∃ k2 : Nat, (k : Int) - 2 = (k2 : Int) := ⟨k - 2, by omega⟩
  have hMt : 0 < digit M k1 := by
    obtain ⟨ml', top', e1, e2, e3⟩ := limbs_last (y * 2 ^ n) (by omega)
    rw [hM] at e1
    have : ml'.length = k1 := by have := congrArg List.length e1; simp at this; omega
    rw [e1, digit_in (ml' ++ [top']) k1 top' (by rw [← this]; simp)]
    exact e2
  have hMtwo := top_two M k hMl (by omega)
  rw [show k - 1 = k1 by omega, show k - 2 = k2 by omega, hMv] at hMtwo
  obtain ⟨bv, ov, rfl, hbv8⟩ := lb_addr hn8.1.lb (by rw [hM, hMl]; omega)
  have HBV := Lib.hid (show bv < H from by rw [← hH]; exact hbv8)
  clear hbv8
  have HMM := Lib.hid (And.intro hM (And.intro hMl (And.intro hMlt (And.intro hMv (And.intro hVpos (And.intro hMt hMtwo))))))
  have ht64 := digit_lt M hMlt k1
  have hs64 := digit_lt M hMlt k2
  have iw1 := IntWalk.i64_in (k1 : Int) (by omega)
  have iw2 := IntWalk.i64_in (k2 : Int) (by omega)
  have ib1 : (k1 : Int) < (k : Int) := by omega
  have ib2 : (k2 : Int) < (k : Int) := by omega
  have ib3 : (0 : Int) ≤ (k1 : Int) := by omega
  have ib4 : (0 : Int) ≤ (k2 : Int) := by omega
  clear hmk HZ hub8 hn8 hqk HD0 hH hwq hM hMl hMlt hMv hVpos hMt hMtwo hB8
  go_wp2_with fail
  refine wp_label ?_
  go_wp2_with fail
  go_loopw [13] (fun i wr => ∃ (j : Nat) (ii : Int) (R Q : List Nat), i = .int .i64 ii ∧ ii + 1 = (j : Int) ∧ k ≤ j ∧ j ≤ nx + 1 ∧ R.length = nx + 1 ∧ Q.length = q ∧ Hid (DivAt (x * 2 ^ n) (y * 2 ^ n) k j R Q) ∧
      Hid (Blk wr G 54 (R.map limbV)) ∧ Hid (Blk wr H 54 (Q.map limbV)) ∧ Hid (NN B7 wr (.slice (some ⟨bv, ov, none⟩) k c8) (y * 2 ^ n)) ∧ Below w.heap.size w wr) (fun i _ => (intOf i).toNat)
  case atStart => exact ⟨nx + 1, nx, U, _, rfl, by omega, by omega, Nat.le_refl _, hul, by simp, HD, hu9, hQ0, hn9, hb9⟩
  case round =>
    clear hu9 hQ0 hn9 hb9 hul HD HU
    obtain ⟨j, ii, R, Q, rfl, hij, hkj, hjn, hRl, hQl, HD, HR, HQ, HV, hB⟩ := hrel
    by_cases hjk : j = k
    · subst hjk
      obtain ⟨hf1, hf2⟩ := HD.out.fin (Nat.pos_of_ne_zero HY.out.2.1)
      have hLR := lb_of_blk HR.out (by omega) HD.out.1 _ hRl
      have hLQ := lb_of_blk HQ.out (by omega) HD.out.2.1 _ hQl
      have hvl : x % y * 2 ^ n < Lim := by
        refine lim_small _ j hs2 (Nat.lt_trans ?_ HX.out.2.1.2)
        exact (Nat.mul_lt_mul_right (Nat.pow_pos (by decide))).2 (Nat.mod_lt _ (Nat.pos_of_ne_zero HY.out.2.1))
      have hshr := shr_any _ (x % y * 2 ^ n) n wr ⟨R, hLR, hf2, by omega⟩ hvl (by omega)
      rw [Nat.mul_div_cancel _ (Nat.pow_pos (by decide))] at hshr
      have HSH := Lib.hid hshr
      have HLQ := Lib.hid (And.intro hLQ hf1)
      have HB := Lib.hid hB
      have hrl : x % y < Lim := Nat.lt_of_le_of_lt (Nat.mod_le x y) HX.out.2.2.2.1
      have hql : x / y < Lim := Nat.lt_of_le_of_lt (Nat.div_le_self x y) HX.out.2.2.2.1
      have HLM := Lib.hid (And.intro hrl hql)
      clear hf1 hf2 hLR hLQ hvl hshr hrl hql hB
      go_wp2_with fail
      refine HSH.out.mono ?_
      rintro e wa ⟨hta, hba⟩
      obtain ⟨aa, ca, rfl, hna⟩ := hta.ok HLM.out.1
      have htq := told_lb _ Q (x / y) wa (HLQ.out.1.below hba) HLQ.out.2
      have HTQ := Lib.hid htq
      have HBA := Lib.hid (HB.out.trans (hba.mono HB.out.size))
      have hna2 := hna.ge HB.out.size
      clear hta hba htq hna
      go_wp2_with fail
      refine HTQ.out.mono ?_
      rintro e wb ⟨htb, hbb⟩
      obtain ⟨ab, cb, rfl, hnb⟩ := htb.ok HLM.out.2
      have hna3 := hna2.below hbb
      have HBB := Lib.hid (HBA.out.trans (hbb.mono HBA.out.size))
      have hnb2 := hnb.ge HBA.out.size
      clear htb hbb hnb hna2
      go_wp2_with fail
      rw [Exit.noGoto_ret]
      go_ret3
      exact ⟨⟨ab, cb, aa, ca, rfl, hnb2, hna3⟩, HBB.out⟩
    · obtain ⟨i, rfl⟩ : ∃ i, j = i + 1 := ⟨j - 1, by omega⟩
      obtain rfl : ii = (i : Int) := by omega
      have hki : k ≤ i := by omega
      obtain ⟨i1, qi1⟩ : ∃ i1 : Nat, (i : Int) - 1 = (i1 : Int) := ⟨i - 1, by omega⟩
      obtain ⟨i0, qi0⟩ : ∃ i0 : Nat, (i : Int) - 2 = (i0 : Int) := ⟨i - 2, by omega⟩
      obtain ⟨s, hs⟩ : ∃ s : Nat, (i : Int) - (k : Int) = (s : Int) := ⟨i - k, by omega⟩
      have hsk : i - k = s := by omega
      obtain ⟨hp1, hp2⟩ := HD.out.part hki (by omega)
      have hpt := part_top R HD.out.1 i k (by omega) hki (by omega) HD.out.2.2.2.2.1
      rw [show i - 1 = i1 by omega, show i - 2 = i0 by omega] at hpt
      rw [show k - 2 = k2 by omega] at hpt
      rw [hsk] at hp1 hp2 hpt
      have hLV := HV.out.1.lb
      rw [HMM.out.1] at hLV
      have cv1 := lb_cell hLV k1 (by rw [HMM.out.2.1]; omega)
      have cv2 := lb_cell hLV k2 (by rw [HMM.out.2.1]; omega)
      obtain ⟨bv', ov', hbe, hbvw⟩ := lb_addr hLV (by rw [HMM.out.2.1]; omega)
      obtain ⟨rfl, rfl⟩ : bv = bv' ∧ ov = ov' := by simpa using hbe
      have hLR := lb_of_blk HR.out (by omega) HD.out.1 _ hRl
      have C := Lib.hid (fun W (hb : Below wr.heap.size wr W) => (guess_lb _ R i i1 i0 (digit M k1) (digit M k2) (val (R.drop s)) (y * 2 ^ n) (18446744073709551616 ^ k2) W (hLR.below hb) qi1 qi0 (by omega) HMM.out.2.2.2.2.2.1 ht64 hs64 HMM.out.2.2.2.2.2.2 hpt hp2).mono
        (fun e w' (h : (∃ g : Nat, e = .returned (.int .u64 (g : Int)) ∧ g < 18446744073709551616 ∧ val (R.drop s) / (y * 2 ^ n) ≤ g) ∧ Below W.heap.size W w') => (show ∃ g : Nat, e = .returned (.int .u64 (g : Int)) ∧ g < 18446744073709551616 ∧ Hid (val (R.drop s) / (y * 2 ^ n) ≤ g) ∧ Below wr.heap.size wr w' from by
          obtain ⟨⟨g, h1, h2, h3⟩, h4⟩ := h
          exact ⟨g, h1, h2, h3, hb.trans (h4.mono hb.size)⟩)))
      have F := Lib.hid (fun W (hb : Below wr.heap.size wr W) => (show W.cell? ⟨bv, ov + k1, none⟩ = some (.int .u64 (digit M k1 : Int)) ∧ W.cell? ⟨bv, ov + k2, none⟩ = some (.int .u64 (digit M k2 : Int)) ∧ Below wr.heap.size wr W from
        ⟨(hb.cell (p := ⟨bv, ov + k1, none⟩) hbvw).trans cv1, (hb.cell (p := ⟨bv, ov + k2, none⟩) hbvw).trans cv2, hb⟩))
      have HB0 := Lib.hid (Below.refl wr.heap.size wr)
      have HBd := Lib.hid (Below.refl wr.heap.size wr).drew
      have HP := Lib.hid (And.intro hp1 (And.intro hp2 hsk))
      clear hp1 hp2 hpt hLV hLR hbe qi1 qi0 hsk hij hjk
      generalize digit M k1 = mt at *
      generalize digit M k2 = mn at *
      go_wp2_with fail
      go_region_held3 (fun W => W.cell? ⟨bv, ov + k1, none⟩ = some (.int .u64 (mt : Int)) ∧ W.cell? ⟨bv, ov + k2, none⟩ = some (.int .u64 (mn : Int)) ∧ Below wr.heap.size wr W) ((first | (exact F.out _ (by assumption)) | (exact F.out _ HB0.out) | (exact F.out _ HBd.out)))
        (first
        | (go_at_call 64; (with_reducible refine (C.out _ (by first | assumption | (exact HB0.out) | (exact HBd.out))).mono ?_); rintro e wn ⟨g, rfl, hg, hgP, hBn⟩)
        | fail)
      clear C F cv1 cv2
      go_wp2_with fail
      go_loopw [14] (fun gv wi => ∃ g : Nat, gv = .int .u64 (g : Int) ∧ g < 18446744073709551616 ∧ Hid (val (R.drop s) / (y * 2 ^ n) ≤ g) ∧ Below wr.heap.size wr wi) (fun gv _ => (intOf gv).toNat)
      case atStart => exact ⟨g, rfl, hg, hgP, hBn⟩
      case round =>
        rename World => wi
        obtain ⟨g', rfl, hg', hgP', hBi⟩ := hrel
        clear hgP hg
        have hVi := HV.out.below hBi
        have hRi := HR.out.below hBi HR.out.lt
        have hLVi := hVi.1.lb
        have ht := times_lb _ _ g' wi hLVi hg' (by rw [HMM.out.1, HMM.out.2.1]; omega)
        rw [val_limbs] at ht
        have HT := Lib.hid ht
        have hks : i + 1 - s = k + 1 := by omega
        clear ht hLVi
        go_wp2_with fail
        refine HT.out.mono ?_
        rintro e wj ⟨ap, cp, rfl, hnp, hbj⟩
        have hRj := hRi.below hbj hRi.lt
        have hVj := hVi.below hbj
        have hLU := lb_of_blk hRj (by omega) HD.out.1 _ hRl
        have hpart := (hLU.drop s (by omega)).take (k + 1) (nx + 1 - s) (by omega) (by omega) (by unfold maxLen; omega)
        rw [Nat.zero_add] at hpart
        have HPT := Lib.hid hpart
        have HNP := Lib.hid hnp
        have hBj := hBi.trans (hbj.mono hBi.size)
        have hplen : ((R.drop s).take (k + 1)).length = k + 1 := by rw [List.length_take, List.length_drop]; omega
        have hcmp := cmp_any _ _ (y * 2 ^ n * g') (val (R.drop s)) wj hnp.nm ⟨_, hpart, HP.out.1, by omega⟩
        have HCM := Lib.hid hcmp
        clear hcmp hpart hLU hnp
        go_wp2_with fail
        refine HCM.out.mono ?_
        rintro e wk ⟨rfl, hbk⟩
        have hBk := hBj.trans (hbk.mono hBj.size)
        have hRk := hRj.below hbk hRj.lt
        have hVk := hVj.below hbk
        have HPK := Lib.hid (HPT.out.below hbk)
        have HNK := Lib.hid (HNP.out.below hbk)
        clear HPT HNP HCM hbj hbk hRi hRj hVi hVj hBi hBj
        by_cases hfit : y * 2 ^ n * g' ≤ val (R.drop s)
        · have hc0 : cmpN (y * 2 ^ n * g') (val (R.drop s)) ≤ 0 := by
            unfold cmpN
            split
            · decide
            · rw [if_neg (Nat.not_lt_of_le hfit)]; decide
          have hgq := guess_fit _ _ _ hgP'.out hfit HMM.out.2.2.2.2.1
          have hrest : val (R.drop s) - y * 2 ^ n * g' < y * 2 ^ n := by
            rw [hgq, ← Nat.mod_def]
            exact Nat.mod_lt _ HMM.out.2.2.2.2.1
          have hrk : nl (val (R.drop s) - y * 2 ^ n * g') ≤ k := (limbs_len k _).2 (Nat.lt_trans hrest HX.out.2.1.2)
          have hless := less_lb _ _ _ _ wk HPK.out HNK.out.1.lb (by rw [hplen]; omega) HNK.out.2 (by rw [val_limbs, HP.out.1]; exact hfit)
          rw [val_limbs, HP.out.1] at hless
          have HLS := Lib.hid hless
          have hstep := HD.out.step (g := g') (rl := limbs (val (R.drop s) - y * 2 ^ n * g')) hki (by omega) (by rw [hQl, HP.out.2.2]; omega) hg' hrk (limbs_lt _) (by rw [val_limbs, HP.out.2.2]; exact Nat.sub_add_cancel hfit) (by rw [val_limbs]; exact hrest)
          rw [HP.out.2.2] at hstep
          have HST := Lib.hid hstep
          have HRK := Lib.hid hrk
          have hGk := hRk.lt
          generalize cmpN (y * 2 ^ n * g') (val (R.drop s)) = cv at *
          generalize val (R.drop s) - y * 2 ^ n * g' = rest at *
          clear hfit hgq hrest hless hstep HPK HNK hrk hplen
          go_wp2_with fail
          refine HLS.out.mono ?_
          rintro e wl ⟨ar, cr, rfl, hnr, hbl⟩
          have hBl := hBk.trans (hbl.mono hBk.size)
          have hRl2 := hRk.below hbl hRk.lt
          have hVl := hVk.below hbl
          obtain ⟨wm, wn2, hcl, hcp, hRn, hgr⟩ := clear_copy wl G R s k (nx + 1 - s) rest ar cr wk.heap.size hRl2 (by omega) hnr hGk (by have := HRK.out; omega)
          have hGH : G ≠ H := by have := HH.out.1; have := HB7.out.2; omega
          have hQn : Blk wn2 H 54 (Q.map limbV) := (HQ.out.below hBl HQ.out.lt).grown hgr (by intro e; injection e with e; omega)
          have hVn := nn_grown hVl hgr HB7.out.2
          have hBn2 : Below w.heap.size w wn2 := below_grown (hB.trans (hBl.mono hB.size)) hgr (Nat.le_trans hB.size hBl.size) HGw.out
          have hsq : s < q := by omega
          have hqf := hQn.frozen s (by simp; omega)
          have hqc := limb_cell hQn s (by omega)
          have HQ2 := Lib.hid (hQn.set_ s (.int .u64 (g' : Int)))
          have HR2 := Lib.hid (hRn.far (p := ⟨H, s, none⟩) hGH (.int .u64 (g' : Int)))
          have hbvne : ∀ g, (Value.slice (some ⟨bv, ov, none⟩) k c8).ownBlock = some g → g ≠ H := fun g e => by
            have h1 : bv = g := by simpa [Value.ownBlock] using e
            have h2 := HBV.out
            omega
          have HV2 := Lib.hid (nn_set_ne hVn H s (.int .u64 (g' : Int)) hbvne)
          have HB2 := Lib.hid (hBn2.setCell (p := ⟨H, s, none⟩) HH.out.2 (.int .u64 (g' : Int)))
          have hls : (spl (spl R s (List.replicate (k + 1) 0)) s (limbs rest)).length = nx + 1 := by
            have h1 : (spl R s (List.replicate (k + 1) 0)).length = R.length := spl_length _ _ _ (by simp; omega)
            rw [spl_length _ _ _ (by rw [h1]; have h2 := HRK.out; unfold nl at h2; omega), h1, hRl]
          clear hnr hRl2 hVl hQn hVn hBn2 hgr hRn hbl hBk hRk hVk HLS hBl
          go_wp2_with fail
          exact ⟨⟨i, (i : Int) - 1, _, Q.set s g', rfl, by omega, hki, by omega, hls, by simpa using hQl, HST, HR2, by rw [← map_limb_set]; exact HQ2, HV2, HB2.out⟩, by simp [intOf]; omega⟩
        · have hc0 : ¬ cmpN (y * 2 ^ n * g') (val (R.drop s)) ≤ 0 := by unfold cmpN; rw [if_neg (by omega), if_pos (by omega)]; decide
          obtain ⟨hd1, hd2⟩ := guess_down _ _ _ hgP'.out (Nat.lt_of_not_le hfit) HMM.out.2.2.2.2.1
          have HD1 := Lib.hid hd1
          generalize cmpN (y * 2 ^ n * g') (val (R.drop s)) = cv at *
          obtain ⟨p, hp⟩ : ∃ p : Nat, (g' : Int) - 1 = (p : Int) := ⟨g' - 1, by omega⟩
          have hpg : g' - 1 = p := by omega
          rw [hpg] at HD1
          have iq := IntWalk.u64_in (p : Int) (by omega)
          have hpl : p < 18446744073709551616 := by omega
          clear hfit hd1 hpg HPK HNK hRk hVk
          go_wp2_with fail
          go_roundw
          case rel => exact ⟨p, by simp, hpl, HD1, hBk⟩
          case measure => simp [intOf]; omega
end Go.Proofs.Ytljgiagdmnedpaa.Nat_
