/-
nat.Div as one contract; nat.Gcd: the greatest number that divides both.
-/
import Derived.Test.YtljgiagdmnedpaaNatDivX
import Derived.Deep.LoopGhost
namespace Go.Proofs.Ytljgiagdmnedpaa.Nat_
open Go.RowKit Go.Shelf

theorem div_any (v u : Value) (x y : Nat) (w : World) (hv : Nm w v x) (hu : Nm w u y) (hx : x < Lim) (hy : y < Lim) (h0 : y ≠ 0) :
    Calls Try.prog 51 #[v, u] w fun e w' => DivTold w.heap.size w' x y e ∧ Below w.heap.size w w' := by
  by_cases hlt : x < y
  · exact div_less v u x y w hv hu hx hy hlt
  · by_cases h1 : nl y = 1
    · exact div_small v u x y w hv hu hx hy (by omega) h1
    · have : nl y ≠ 0 := fun h => h0 ((nl_zero y).1 h)
      exact div_more v u x y w hv hu hx hy (by omega) (by omega)
theorem gcd_long (v u : Value) (x y : Nat) (w : World) (hv : Nm w v x) (hu : Nm w u y) (hL : Lim ≤ x ∨ Lim ≤ y) :
    Calls Try.prog 50 #[v, u] w fun e w' => e = .returned (.tuple #[.slice none 0 0, .int .i64 3]) ∧ Below w.heap.size w w' := by
  obtain ⟨a, len, cap, rfl, -⟩ := hv.slice
  obtain ⟨a', len', cap', rfl, -⟩ := hu.slice
  have hb0 := (Below.refl w.heap.size w).alloc (Nat.le_refl _) (.cells #[.slice a len cap, .slice a' len' cap'] 31)
  go_enter Try.func50, Try.ntmps50
  go_wp2_with fail
  refine (long2_yes _ _ _ _ _ _ _ rfl hv hu hL).mono ?_
  rintro e w1 ⟨rfl, hb1⟩
  go_wp2_with fail
  go_ret2
  exact ⟨rfl, hb0.trans (hb1.mono (by simp))⟩
set_option maxRecDepth 100000 in
set_option maxHeartbeats 2000000 in
theorem gcd_any (v u : Value) (x y : Nat) (w : World) (hv : Nm w v x) (hu : Nm w u y) (hx : x < Lim) (hy : y < Lim) :
    Calls Try.prog 50 #[v, u] w fun e w' => Told w.heap.size w' (Nat.gcd x y) e ∧ Below w.heap.size w w' := by
  obtain ⟨a, len, cap, rfl, -⟩ := hv.slice
  obtain ⟨a', len', cap', rfl, -⟩ := hu.slice
  have hb0 := (Below.refl w.heap.size w).alloc (Nat.le_refl _) (.cells #[.slice a len cap, .slice a' len' cap'] 31)
  have HV := Lib.hid (And.intro hv hu)
  have HXY := Lib.hid (And.intro hx hy)
  clear hv hu hx hy
  go_enter Try.func50, Try.ntmps50
  go_wp2_with fail
  refine (long2_no _ _ _ _ _ _ _ rfl HV.out.1 HV.out.2 HXY.out.1 HXY.out.2).mono ?_
  rintro e w1 ⟨rfl, hb1⟩
  have HB1 := Lib.hid (hb0.trans (hb1.mono (by simp)))
  clear hb0 hb1
  go_wp2_with fail
  refine (normal_any _ x w1 (HV.out.1.below HB1.out)).mono ?_
  rintro e w2 ⟨a1, c1, rfl, hn1, hb2⟩
  have HB2 := Lib.hid (HB1.out.trans (hb2.mono HB1.out.size))
  have HN1 := Lib.hid (hn1.ge HB1.out.size)
  clear hb2 hn1
  go_wp2_with fail
  refine (normal_any _ y w2 (HV.out.2.below HB2.out)).mono ?_
  rintro e w3 ⟨a2, c2, rfl, hn2, hb3⟩
  have HB3 := Lib.hid (HB2.out.trans (hb3.mono HB2.out.size))
  have HN2 := Lib.hid (hn2.ge HB2.out.size)
  have HN1' := Lib.hid (HN1.out.below hb3)
  clear hb3 hn2
  go_wp2_with fail
  go_loopg [0, 1] y (fun gk v0 v1 wr => ∃ (p q : Nat) (aa ab : Option Addr) (ca cb : Nat), v0 = .slice aa (nl p) ca ∧ v1 = .slice ab (nl q) cb ∧ Hid (NN w.heap.size wr (.slice aa (nl p) ca) p) ∧ Hid (NN w.heap.size wr (.slice ab (nl q) cb) q) ∧ q ≤ gk ∧
      Hid (p < Lim ∧ q < Lim ∧ Nat.gcd p q = Nat.gcd x y) ∧ Hid (Below w.heap.size w wr))
  case atStart => exact ⟨x, y, a1, a2, c1, c2, rfl, rfl, HN1', HN2, Nat.le_refl _, ⟨HXY.out.1, HXY.out.2, rfl⟩, HB3⟩
  case round =>
    obtain ⟨p, q, aa, ab, ca, cb, rfl, rfl, HP, HQ, hqg, HE, HB⟩ := hrel
    by_cases h0 : q = 0
    · subst h0
      have hz : nl 0 = 0 := rfl
      rw [hz] at HQ ⊢
      have hg : Nat.gcd x y = p := by rw [← HE.out.2.2, Nat.gcd_zero_right]
      have HG := Lib.hid hg
      clear hg
      go_wp2_with fail
      refine (told_any _ p wr HP.out.nm).mono ?_
      rintro e w4 ⟨ht, hb4⟩
      obtain ⟨a4, c4, rfl, hn4⟩ := ht.ok HE.out.1
      have HB4 := Lib.hid (HB.out.trans (hb4.mono HB.out.size))
      have HN4 := Lib.hid (hn4.ge HB.out.size)
      clear ht hb4 hn4
      go_wp2_with fail
      go_ret2
      rw [HG.out]
      exact ⟨.inl ⟨HE.out.1, a4, c4, rfl, HN4.out⟩, HB4.out⟩
    · have hl0 : nl q ≠ 0 := fun h => h0 ((nl_zero q).1 h)
      have HD := Lib.hid (div_any _ _ p q wr HP.out.nm HQ.out.nm HE.out.1 HE.out.2.1 h0)
      have hmod : p % q < q := Nat.mod_lt p (Nat.pos_of_ne_zero h0)
      have hml : p % q < Lim := Nat.lt_of_le_of_lt (Nat.mod_le p q) HE.out.1
      have hgcd : Nat.gcd q (p % q) = Nat.gcd x y := by
        rw [← HE.out.2.2, Nat.gcd_comm p q, Nat.gcd_comm q, ← Nat.gcd_rec]
      have HG := Lib.hid (And.intro HE.out.2.1 (And.intro hml hgcd))
      have HM := Lib.hid hmod
      clear hmod hml hgcd
      go_wp2_with fail
      refine HD.out.mono ?_
      rintro e w4 ⟨⟨qa, qc, ra, rc, rfl, hqn, hrn⟩, hb4⟩
      have HB4 := Lib.hid (HB.out.trans (hb4.mono HB.out.size))
      have HR4 := Lib.hid (hrn.ge HB.out.size)
      have HQ4 := Lib.hid (HQ.out.below hb4)
      clear hqn hrn hb4
      go_wp2_with fail
      go_roundg (p % q)
      case measure => have := HM.out; omega
      case rel => exact ⟨q, p % q, ab, ra, cb, rc, rfl, rfl, HQ4, HR4, Nat.le_refl _, HG, HB4⟩
end Go.Proofs.Ytljgiagdmnedpaa.Nat_
