/-
nat.Div: quotient and rest.
-/
import Derived.Test.YtljgiagdmnedpaaNatGuessW
import Derived.Test.YtljgiagdmnedpaaNatDivLaw
import Derived.Test.YtljgiagdmnedpaaNatShr
import Derived.Test.YtljgiagdmnedpaaNatBits
import Derived.Lib.SliceRun
namespace Go.Proofs.Ytljgiagdmnedpaa.Nat_
open Go.RowKit Go.Shelf

theorem leadn_any (x : Nat) (h0 : 0 < x) (h : x < 18446744073709551616) (w : World) :
    Calls Try.prog 62 #[.int .u64 (x : Int)] w fun e w' => e = .returned (.int .i64 ((64 - nbits x : Nat) : Int)) ∧ w' = w := by
  refine (Try.bits_LeadingZeros64 (x : Int) w (by omega) (by omega)).mono ?_
  rintro e w' ⟨rfl, rfl⟩
  refine ⟨ret_int ?_, rfl⟩
  rw [Int.toNat_natCast]
  obtain ⟨h2, h3, h4⟩ := Lib.bitLenAux_bounds 64 x (by simpa using h) (by omega)
  have h5 : Lib.bitLen x = Lib.bitLenAux 64 x := rfl
  rw [← h5] at h2 h3 h4
  obtain ⟨k, hk⟩ : ∃ k, Lib.bitLen x = k + 1 := ⟨Lib.bitLen x - 1, by omega⟩
  rw [hk] at h3 h4 ⊢
  rw [Nat.add_sub_cancel] at h3
  rw [nbits_uniq x k h3 h4]
  have : k + 1 ≤ 64 := by
    rcases Nat.lt_or_ge 64 (k + 1) with h6 | h6
    · have : 2 ^ 64 ≤ 2 ^ k := Nat.pow_le_pow_right (by decide) (by omega)
      omega
    · exact h6
  omega
theorem blk_setCells (g : Nat) (t : TypeId) : ∀ (vs : List Value) (o : Nat) (cs : List Value) (w : World), Blk w g t cs → o + vs.length ≤ cs.length → Blk (w.setCells g o vs) g t (spl cs o vs) ∧ w.grownBy (w.setCells g o vs) (some g)
  | [], o, cs, w, h, _ => by
    have e : spl cs o [] = cs := by simp [spl]
    rw [e]
    exact ⟨h, grown_refl w _⟩
  | v :: vs, o, cs, w, h, hl => by
    simp only [List.length_cons] at hl
    obtain ⟨h1, h2⟩ := blk_setCells g t vs (o + 1) (cs.set o v) (w.setCell ⟨g, o, none⟩ v) (h.set_ o v) (by simp; omega)
    have e : spl (cs.set o v) (o + 1) vs = spl cs o (v :: vs) := list_set_step cs o v vs (by omega)
    rw [e] at h1
    exact ⟨h1, grown_trans (grown_set w g o v) h2⟩
theorem spl_map (R : List Nat) (o : Nat) (c : List Nat) : spl (R.map limbV) o (c.map limbV) = (spl R o c).map limbV := by
  simp [spl, List.map_take, List.map_drop]
theorem own_grown' {B : Nat} {w w' : World} {g : Nat} {e : TypeId} {size : Nat} {v : Value} {k : Nat} {xs : List Value} (h : w.ownsRow B e size v k xs) (hg : w.grownBy w' (some g)) (hgB : g < B) : w'.ownsRow B e size v k xs := by
  obtain ⟨h0, h1⟩ := h
  refine ⟨h0, ?_⟩
  rcases h1 with h1 | ⟨q, cap, cur, rfl, hB, hq, hr⟩
  · exact .inl h1
  · exact .inr ⟨q, cap, cur, rfl, hB, (hg.block q (Array.getElem?_eq_some_iff.1 hq).1 (by intro e; injection e with e; omega)).trans hq, hr⟩
theorem nn_grown {B : Nat} {w w' : World} {g : Nat} {v : Value} {n : Nat} (h : NN B w v n) (hg : w.grownBy w' (some g)) (hgB : g < B) : NN B w' v n := ⟨⟨own_grown' h.1.1 hg hgB, h.1.2⟩, h.2⟩
/-- clear of a part of a row, and copy of a number into it. -/
theorem clear_copy (w : World) (G : Nat) (R : List Nat) (s k c : Nat) (rest : Nat) (ar : Option Addr) (cr B : Nat) (hR : Blk w G 54 (R.map limbV)) (hfit : s + (k + 1) ≤ R.length) (hn : NN B w (.slice ar (nl rest) cr) rest) (hGB : G < B) (hk : nl rest ≤ k + 1) :
    ∃ w2 w3, (∀ ty, (Builtin.clear_ #[31] ty #[.slice (some ⟨G, s, none⟩) (k + 1) c]).run Try.prog w = .ok (.tuple #[]) w2) ∧
      (∀ ty, (Builtin.copy_ #[31, 31] ty #[.slice (some ⟨G, s, none⟩) (k + 1) c, .slice ar (nl rest) cr]).run Try.prog w2 = .ok (.int .i64 (nl rest : Int)) w3) ∧
      Blk w3 G 54 ((spl (spl R s (List.replicate (k + 1) 0)) s (limbs rest)).map limbV) ∧ w.grownBy w3 (some G) := by
  have hrl : (R.map limbV).length = R.length := by simp
  have e1 : List.replicate (k + 1) (Value.int .u64 0) = (List.replicate (k + 1) 0).map limbV := by simp [limbV]
  obtain ⟨hb2, hg2⟩ := blk_setCells G 54 (List.replicate (k + 1) (.int .u64 0)) s (R.map limbV) w hR (by simp; omega)
  rw [e1, spl_map] at hb2
  have hl2 : (spl R s (List.replicate (k + 1) 0)).length = R.length := spl_length _ _ _ (by simp; omega)
  refine ⟨w.setCells G s (List.replicate (k + 1) (.int .u64 0)), (w.setCells G s (List.replicate (k + 1) (.int .u64 0))).setCells G s ((limbs rest).map limbV), fun ty => ?_, fun ty => ?_, ?_⟩
  · refine Lib.run_clear_slice w _ 54 ty (.int .u64 0) Try.underlying31 Try.zeroValue54 rfl rfl G s (k + 1) c (by omega) (fun j hj => ?_) (fun j hj => hR.frozen _ (by rw [hrl]; omega))
    rw [hR.cell, List.getElem?_map, List.getElem?_eq_getElem (by omega)]
    rfl
  · rw [e1]
    have hn2 := nn_grown hn hg2 hGB
    rw [e1] at hn2
    by_cases h0 : nl rest = 0
    · have hr0 : limbs rest = [] := List.length_eq_zero_iff.1 h0
      rw [h0, hr0]
      exact run_copy_none _ _ _ ty 54 _ _ _ _ _ _ Try.underlying31 (by kernel_rfl) (by simp)
    · obtain ⟨b, o, rfl, hbw⟩ := lb_addr hn2.1.lb (by show 0 < nl rest; omega)
      have h := run_copy_cells (P := Try.prog) ((w.setCells G s ((List.replicate (k + 1) 0).map limbV))) 31 31 ty 54 G s (k + 1) c ⟨b, o, none⟩ (nl rest) cr ((limbs rest).map limbV)
        Try.underlying31 (by kernel_rfl) (by rw [List.length_map]; exact (Nat.min_eq_left hk).symm) (fun j v hj => ?_) (fun j hj => ?_) (fun j hj => ?_) (limbV_one _)
      · simpa [nl, goInt] using h
      · rw [List.getElem?_map] at hj
        cases hq : (limbs rest)[j]? with
        | none => rw [hq] at hj; cases hj
        | some z =>
          rw [hq] at hj
          injection hj with hj
          have hjl := (List.getElem?_eq_some_iff.1 hq).1
          have := lb_cell hn2.1.lb j hjl
          rw [Addr.add_lit, this, ← hj, digit_in _ _ _ hq]
          rfl
      · rw [List.length_map] at hj
        rw [hb2.cell, List.getElem?_map, List.getElem?_eq_getElem (by unfold nl at hk; omega)]
        rfl
      · rw [List.length_map] at hj
        exact hb2.frozen _ (by rw [List.length_map, hl2]; unfold nl at hk; omega)
  · obtain ⟨hb3, hg3⟩ := blk_setCells G 54 ((limbs rest).map limbV) s _ _ hb2 (by simp [hl2]; unfold nl at hk; omega)
    rw [spl_map] at hb3
    rw [← e1] at hb3 hg3
    exact ⟨hb3, grown_trans hg2 hg3⟩
/-- What Div tells of x by y. -/
def DivTold (B : Nat) (w : World) (x y : Nat) (e : Ending) : Prop :=
  ∃ qa qc ra rc, e = .returned (.tuple #[.slice qa (nl (x / y)) qc, .slice ra (nl (x % y)) rc, .int .i64 0]) ∧ NN B w (.slice qa (nl (x / y)) qc) (x / y) ∧ NN B w (.slice ra (nl (x % y)) rc) (x % y)
theorem norm_top (y k : Nat) (hy : y ≠ 0) (hk : nbits y ≤ 64 * k) (hk2 : 64 * k < nbits y + 64) : 2 ^ 63 * 18446744073709551616 ^ (k - 1) ≤ y * 2 ^ (64 * k - nbits y) ∧ y * 2 ^ (64 * k - nbits y) < 18446744073709551616 ^ k := by
  obtain ⟨h1, h2, h3⟩ := nbits_spec y hy
  have hk1 : 1 ≤ k := by omega
  constructor
  · have e : 2 ^ 63 * 18446744073709551616 ^ (k - 1) = 2 ^ (nbits y - 1) * 2 ^ (64 * k - nbits y) := by
      rw [pow_limb, ← Nat.pow_add, ← Nat.pow_add]
      congr 1
      omega
    rw [e]
    exact Nat.mul_le_mul_right _ h1
  · have e : 18446744073709551616 ^ k = 2 ^ nbits y * 2 ^ (64 * k - nbits y) := by
      rw [pow_limb, ← Nat.pow_add]
      congr 1
      omega
    rw [e]
    exact (Nat.mul_lt_mul_right (Nat.pow_pos (by decide))).2 h2
set_option maxRecDepth 100000 in
theorem div_long (v u : Value) (x y : Nat) (w : World) (hv : Nm w v x) (hu : Nm w u y) (hL : Lim ≤ x ∨ Lim ≤ y) :
    Calls Try.prog 51 #[v, u] w fun e w' => e = .returned (.tuple #[.slice none 0 0, .slice none 0 0, .int .i64 3]) ∧ Below w.heap.size w w' := by
  go_enter Try.func51, Try.ntmps51
  go_wp2_with fail
  refine wp_scope_straight ?_
  go_wp2_with fail
  refine (normal_any v x _ hv).mono ?_
  rintro e w1 ⟨a1, c1, rfl, hn1, hb1⟩
  go_wp2_with fail
  refine (normal_any u y _ (hu.below hb1)).mono ?_
  rintro e w2 ⟨a2, c2, rfl, hn2, hb2⟩
  have hn1' := hn1.below hb2
  go_wp2_with fail
  refine (long2_yes _ _ _ _ _ _ _ rfl hn1'.nm hn2.nm hL).mono ?_
  rintro e w3 ⟨rfl, hb3⟩
  have hb3' := ((Below.refl w2.heap.size w2).alloc (Nat.le_refl _) (.cells #[.slice a1 (nl x) c1, .slice a2 (nl y) c2] 31)).trans (hb3.mono (by simp))
  have hbW : Below w.heap.size w w3 := (hb1.trans (hb2.mono hb1.size)).trans (hb3'.mono (Nat.le_trans hb1.size hb2.size))
  go_wp2_with fail
  rw [Exit.noGoto_ret]
  go_ret3
  exact ⟨rfl, hbW⟩
set_option maxRecDepth 100000 in
theorem div_zero (v u : Value) (x : Nat) (w : World) (hv : Nm w v x) (hu : Nm w u 0) (hx : x < Lim) :
    Calls Try.prog 51 #[v, u] w fun e w' => e = .returned (.tuple #[.slice none 0 0, .slice none 0 0, .int .i64 2]) ∧ Below w.heap.size w w' := by
  go_enter Try.func51, Try.ntmps51
  go_wp2_with fail
  refine wp_scope_straight ?_
  go_wp2_with fail
  refine (normal_any v x _ hv).mono ?_
  rintro e w1 ⟨a1, c1, rfl, hn1, hb1⟩
  go_wp2_with fail
  refine (normal_any u 0 _ (hu.below hb1)).mono ?_
  rintro e w2 ⟨a2, c2, rfl, hn2, hb2⟩
  have hz : nl 0 = 0 := rfl
  rw [hz] at hn2 ⊢
  have hn1' := hn1.below hb2
  go_wp2_with fail
  refine (long2_no _ _ _ _ _ _ _ rfl hn1'.nm hn2.nm hx ((nl_iff 0).1 (by decide))).mono ?_
  rintro e w3 ⟨rfl, hb3⟩
  have hb3' := ((Below.refl w2.heap.size w2).alloc (Nat.le_refl _) (.cells #[.slice a1 (nl x) c1, .slice a2 0 c2] 31)).trans (hb3.mono (by simp))
  have hbW : Below w.heap.size w w3 := (hb1.trans (hb2.mono hb1.size)).trans (hb3'.mono (Nat.le_trans hb1.size hb2.size))
  go_wp2_with fail
  rw [Exit.noGoto_ret]
  go_ret3
  exact ⟨rfl, hbW⟩
set_option maxRecDepth 100000 in
set_option maxHeartbeats 2000000 in
theorem div_less (v u : Value) (x y : Nat) (w : World) (hv : Nm w v x) (hu : Nm w u y) (hx : x < Lim) (hy : y < Lim) (hlt : x < y) :
    Calls Try.prog 51 #[v, u] w fun e w' => DivTold w.heap.size w' x y e ∧ Below w.heap.size w w' := by
  have hy0 : nl y ≠ 0 := fun h => by have := (nl_zero y).1 h; omega
  go_enter Try.func51, Try.ntmps51
  go_wp2_with fail
  refine wp_scope_straight ?_
  go_wp2_with fail
  refine (normal_any v x _ hv).mono ?_
  rintro e w1 ⟨a1, c1, rfl, hn1, hb1⟩
  go_wp2_with fail
  refine (normal_any u y _ (hu.below hb1)).mono ?_
  rintro e w2 ⟨a2, c2, rfl, hn2, hb2⟩
  have hn1' := hn1.below hb2
  go_wp2_with fail
  refine (long2_no _ _ _ _ _ _ _ rfl hn1'.nm hn2.nm hx hy).mono ?_
  rintro e w3 ⟨rfl, hb3⟩
  have hb3' := ((Below.refl w2.heap.size w2).alloc (Nat.le_refl _) (.cells #[.slice a1 (nl x) c1, .slice a2 (nl y) c2] 31)).trans (hb3.mono (by simp))
  have hbW : Below w.heap.size w w3 := (hb1.trans (hb2.mono hb1.size)).trans (hb3'.mono (Nat.le_trans hb1.size hb2.size))
  have hm1 : Nm w3 (.slice a1 (nl x) c1) x := hn1'.nm.below hb3'
  have hm2 : Nm w3 (.slice a2 (nl y) c2) y := hn2.nm.below hb3'
  have HL := Lib.hid (And.intro hlt (And.intro hx hbW))
  have hcm : cmpN x y = -1 := by unfold cmpN; rw [if_pos hlt]
  clear hb3 hb3' hn1 hn1' hn2 hb1 hb2 hv hu hlt hx hy hbW
  go_wp2_with fail
  refine (cmp_any _ _ x y w3 hm1 hm2).mono ?_
  rw [hcm]
  rintro e w4 ⟨rfl, hb4⟩
  have hm3 := hm1.below hb4
  go_wp2_with fail
  refine (told_any _ x w4 hm3).mono ?_
  rintro e w5 ⟨ht, hb5⟩
  have hbE : Below w.heap.size w w5 := (HL.out.2.2.trans (hb4.mono HL.out.2.2.size)).trans (hb5.mono (Nat.le_trans HL.out.2.2.size hb4.size))
  obtain ⟨a5, c5, rfl, hn5⟩ := ht.ok HL.out.2.1
  have hsz : w.heap.size ≤ w4.heap.size := Nat.le_trans HL.out.2.2.size hb4.size
  clear hm1 hm2 hm3 hb4 hb5 ht
  go_wp2_with fail
  rw [Exit.noGoto_ret]
  go_ret3
  refine ⟨⟨none, 0, a5, c5, ?_, ?_, ?_⟩, hbE⟩
  · rw [Nat.div_eq_of_lt HL.out.1, Nat.mod_eq_of_lt HL.out.1]; rfl
  · rw [Nat.div_eq_of_lt HL.out.1]; exact NN.nil _ _
  · rw [Nat.mod_eq_of_lt HL.out.1]; exact hn5.ge hsz
set_option maxRecDepth 100000 in
set_option maxHeartbeats 2000000 in
theorem div_small (v u : Value) (x y : Nat) (w : World) (hv : Nm w v x) (hu : Nm w u y) (hx : x < Lim) (hy : y < Lim) (hle : y ≤ x) (h1 : nl y = 1) :
    Calls Try.prog 51 #[v, u] w fun e w' => DivTold w.heap.size w' x y e ∧ Below w.heap.size w w' := by
  have hy64 : y < 18446744073709551616 := by have := (limbs_len 1 y).1 (Nat.le_of_eq h1); simpa using this
  have hy1 : 0 < y := Nat.pos_of_ne_zero fun h => by rw [h] at h1; exact absurd h1 (by decide)
  go_enter Try.func51, Try.ntmps51
  go_wp2_with fail
  refine wp_scope_straight ?_
  go_wp2_with fail
  refine (normal_any v x _ hv).mono ?_
  rintro e w1 ⟨a1, c1, rfl, hn1, hb1⟩
  go_wp2_with fail
  refine (normal_any u y _ (hu.below hb1)).mono ?_
  rintro e w2 ⟨a2, c2, rfl, hn2, hb2⟩
  rw [h1] at hn2 ⊢
  have hn1' := hn1.below hb2
  go_wp2_with fail
  refine (long2_no _ _ _ _ _ _ _ rfl hn1'.nm hn2.nm hx hy).mono ?_
  rintro e w3 ⟨rfl, hb3⟩
  have hb3' := ((Below.refl w2.heap.size w2).alloc (Nat.le_refl _) (.cells #[.slice a1 (nl x) c1, .slice a2 1 c2] 31)).trans (hb3.mono (by simp))
  have hbW : Below w.heap.size w w3 := (hb1.trans (hb2.mono hb1.size)).trans (hb3'.mono (Nat.le_trans hb1.size hb2.size))
  have hm1 : Lb w3 (.slice a1 (nl x) c1) (limbs x) := hn1'.1.lb.below hb3'
  have hm2 : Lb w3 (.slice a2 1 c2) (limbs y) := hn2.1.lb.below hb3'
  have hlm : limbs y = [y] := by rw [limbs_small y hy64, if_neg (by omega)]
  rw [hlm] at hm2
  have hs1 : nl x ≤ 1000000 := hn1.2
  have HL := Lib.hid (And.intro hx hbW)
  have hcm : cmpN x y = 0 ∨ cmpN x y = 1 := by unfold cmpN; rw [if_neg (by omega)]; split <;> simp
  have HN := Lib.hid (And.intro (show Nm w3 (.slice a1 (nl x) c1) x from hn1'.nm.below hb3') (show Nm w3 (.slice a2 1 c2) y from hn2.nm.below hb3'))
  have HY := Lib.hid (And.intro hy1 hy64)
  clear hb3 hb3' hn1 hn1' hn2 hb1 hb2 hv hu hx hy hbW hlm
  go_wp2_with fail
  refine (cmp_any _ _ x y w3 HN.out.1 HN.out.2).mono ?_
  rintro e w4 ⟨rfl, hb4⟩
  have hm3 := hm1.below hb4
  obtain ⟨b2, off2, rfl, hbw2⟩ := lb_addr hm2 (by simp)
  have hc2 := lb_cell (hm2.below hb4) 0 (by simp)
  have hb2w : b2 < w4.heap.size := Nat.lt_of_lt_of_le hbw2 hb4.size
  have e0 : digit [y] 0 = y := rfl
  rw [e0, Nat.add_zero] at hc2
  have hc0 : ¬ cmpN x y < 0 := by omega
  have hbW4 := HL.out.2.trans (hb4.mono HL.out.2.size)
  have HB4 := Lib.hid hbW4
  have hsm := Lib.hid (small_lb _ (limbs x) y w4 hm3 HY.out.1 HY.out.2)
  clear hm1 hm2 hm3 hb4 hbW4 HN hcm e0
  generalize cmpN x y = cm at *
  go_wp2_with fail
  refine hsm.out.mono ?_
  rw [val_limbs]
  rintro e w5 ⟨a5, c5, rfl, ho, hb5⟩
  have hq : x / y < Lim := Nat.lt_of_le_of_lt (Nat.div_le_self x y) HL.out.1
  have HQ := Lib.hid hq
  have hr : x % y < 18446744073709551616 := by have := Nat.mod_lt x HY.out.1; have := HY.out.2; omega
  have hlo := ho.lb
  have HB5 := Lib.hid (HB4.out.trans (hb5.mono HB4.out.size))
  clear hc2 hsm hq ho hb5 hc0
  generalize hxq : x / y = xq at *
  generalize hxr : x % y = xr at *
  have HE := Lib.hid (And.intro hxq hxr)
  clear hxq hxr
  go_wp2_with fail
  refine (told_lb _ (limbs xq) xq w5 hlo (val_limbs _)).mono ?_
  rintro e w6 ⟨ht, hb6⟩
  obtain ⟨a6, c6, rfl, hn6⟩ := ht.ok HQ.out
  have HB6 := Lib.hid (HB5.out.trans (hb6.mono HB5.out.size))
  clear ht hlo
  go_wp2_with fail
  refine (of_any xr w6 hr).mono ?_
  rintro e w7 ⟨a7, c7, rfl, hn7, hb7⟩
  have hn6' := hn6.below hb7
  have HB7 := Lib.hid (HB6.out.trans (hb7.mono HB6.out.size))
  have hs5 := HB5.out.size
  have hs6 := HB6.out.size
  clear hn6 hb7 hb6
  go_wp2_with fail
  rw [Exit.noGoto_ret]
  go_ret3
  refine ⟨⟨a6, c6, a7, c7, ?_, ?_, ?_⟩, HB7.out⟩
  · rw [HE.out.1, HE.out.2]; rfl
  · rw [HE.out.1]; exact hn6'.ge hs5
  · rw [HE.out.2]; exact hn7.ge hs6
end Go.Proofs.Ytljgiagdmnedpaa.Nat_
