/-
nat.guess: a quotient's limb, not too small.
-/
import Derived.Test.YtljgiagdmnedpaaNatTimes
import Derived.Test.YtljgiagdmnedpaaNatGuess
import Derived.Test.YtljgiagdmnedpaaNatSmall
import Derived.Deep.RegionHeld3
namespace Go.Proofs.Ytljgiagdmnedpaa.Nat_
open Go.RowKit Go.Shelf

set_option maxRecDepth 100000 in
set_option maxHeartbeats 4000000 in
theorem guess_lb (v : Value) (l : List Nat) (i i1 i0 t n U V X : Nat) (w : World) (h : Lb w v l) (q1 : (i : Int) - 1 = (i1 : Int)) (q0 : (i : Int) - 2 = (i0 : Int)) (hk : i < l.length) (ht : 0 < t) (ht1 : t < 18446744073709551616) (hn : n < 18446744073709551616)
    (hV : (t * 18446744073709551616 + n) * X ≤ V) (hU : U < ((digit l i * 18446744073709551616 + digit l i1) * 18446744073709551616 + digit l i0 + 1) * X) (hUV : U < V * 18446744073709551616) :
    Calls Try.prog 64 #[v, .int .u64 (t : Int), .int .u64 (n : Int), .int .i64 (i : Int)] w fun e w' => (∃ g : Nat, e = .returned (.int .u64 (g : Int)) ∧ g < 18446744073709551616 ∧ U / V ≤ g) ∧ Below w.heap.size w w' := by
  have hl := h
  have hlt := h.lt
  obtain ⟨b, off, ha, hbw⟩ : ∃ b off, (∃ len cap, v = .slice (some ⟨b, off, none⟩) len cap ∧ l.length = len ∧ len ≤ 4000000) ∧ b < w.heap.size := by
    obtain ⟨a, len, cap, rfl, h1, -, -, h4, -⟩ := h
    obtain ⟨b, off, rfl, hb⟩ := lb_addr hl (by omega)
    exact ⟨b, off, ⟨len, cap, rfl, h1, h4⟩, hb⟩
  obtain ⟨len, cap, rfl, h1, hlen⟩ := ha
  have c0 := lb_cell hl i0 (by omega)
  have c1 := lb_cell hl i1 (by omega)
  have c2 := lb_cell hl i (by omega)
  have d0 := digit_lt l hlt i0
  have d1 := digit_lt l hlt i1
  have d2 := digit_lt l hlt i
  have hkl : i < len := by omega
  have hgreat := guess_great U V 18446744073709551616 hUV
  have hfirst := guess_first U V X t n (digit l i * 18446744073709551616 + digit l i1) (digit l i0) ht hV hU d0
  have hnext := fun q => guess_next U V X t n (digit l i * 18446744073709551616 + digit l i1) (digit l i0) q hV hU
  clear hV hU hUV hk hl h hlt h1
  generalize digit l i0 = u0 at *
  generalize digit l i1 = u1 at *
  generalize digit l i = u2 at *
  have HG := Lib.hid hgreat
  have HF := Lib.hid hfirst
  have HX := Lib.hid hnext
  clear hgreat hfirst hnext
  by_cases hge : t ≤ u2
  · go_enter Try.func64, Try.ntmps64
    go_wp2_with fail
    go_ret
    exact ⟨⟨18446744073709551615, rfl, by decide, HG.out⟩, Below.refl _ _⟩
  have hlt2 : u2 < t := by omega
  have F := Lib.hid (fun W (hb : Below w.heap.size w W) => (show W.cell? ⟨b, off + i, none⟩ = some (.int .u64 (u2 : Int)) ∧ W.cell? ⟨b, off + i1, none⟩ = some (.int .u64 (u1 : Int)) ∧ W.cell? ⟨b, off + i0, none⟩ = some (.int .u64 (u0 : Int)) ∧ Below w.heap.size w W from
        ⟨(hb.cell (p := ⟨b, off + i, none⟩) hbw).trans c2, (hb.cell (p := ⟨b, off + i1, none⟩) hbw).trans c1, (hb.cell (p := ⟨b, off + i0, none⟩) hbw).trans c0, hb⟩))
  have C := Lib.hid (fun W (hb : Below w.heap.size w W) => (div64_any u2 u1 t hlt2 d1 ht1 W).mono (fun e w' (h : ∃ q r : Nat, e = .returned (.tuple #[.int .u64 (q : Int), .int .u64 (r : Int)]) ∧ q < 18446744073709551616 ∧ r < t ∧ u2 * 18446744073709551616 + u1 = q * t + r ∧ Below W.heap.size W w') =>
    (show ∃ q r : Nat, e = .returned (.tuple #[.int .u64 (q : Int), .int .u64 (r : Int)]) ∧ q < 18446744073709551616 ∧ r < t ∧ u2 * 18446744073709551616 + u1 = q * t + r ∧ Below w.heap.size w w' from by obtain ⟨q, r, h1, h2, h3, h4, h5⟩ := h; exact ⟨q, r, h1, h2, h3, h4, hb.trans (h5.mono hb.size)⟩)))
  have HB := Lib.hid (Below.refl w.heap.size w)
  have HBd := Lib.hid (Below.refl w.heap.size w).drew
  go_enter Try.func64, Try.ntmps64
  go_wp2_with fail
  have iw1 := IntWalk.i64_in (i1 : Int) (by omega)
  have iw0 := IntWalk.i64_in (i0 : Int) (by omega)
  have ib1 : (i1 : Int) < (len : Int) := by omega
  have ib2 : (0 : Int) ≤ (i1 : Int) := by omega
  go_region_held3 (fun W => W.cell? ⟨b, off + i, none⟩ = some (.int .u64 (u2 : Int)) ∧ W.cell? ⟨b, off + i1, none⟩ = some (.int .u64 (u1 : Int)) ∧ W.cell? ⟨b, off + i0, none⟩ = some (.int .u64 (u0 : Int)) ∧ Below w.heap.size w W) ((first | (exact F.out _ (by assumption)) | (exact F.out _ HB.out) | (exact F.out _ HBd.out)))
    (first
    | (go_at_call 61; (with_reducible refine (C.out _ (by first | assumption | (exact HB.out) | (exact HBd.out))).mono ?_); rintro e wn ⟨q, r, rfl, hq, hr, hqr, hBn⟩)
    | fail)
  have hq0 : U / V ≤ q := by
    have h1 := HF.out
    rw [hqr] at h1
    have h2 : (q * t + r) / t = q := by rw [Nat.mul_comm, Nat.mul_add_div ht, Nat.div_eq_of_lt hr, Nat.add_zero]
    rw [h2] at h1
    exact h1
  have HQ := Lib.hid (And.intro hqr hq0)
  have HBN := Lib.hid hBn
  obtain ⟨-, -, cn0, -⟩ := F.out _ hBn
  have hbn : b < wn.heap.size := Nat.lt_of_lt_of_le hbw hBn.size
  clear hqr hq0 c0 c1 c2 hBn HF HG C HB HBd
  go_wp2_with fail
  go_loop [9, 10] (fun a c => ∃ q r : Nat, a = .int .u64 (q : Int) ∧ c = .int .u64 (r : Int) ∧ q < 18446744073709551616 ∧ r < 18446744073709551616 ∧ Hid (u2 * 18446744073709551616 + u1 = q * t + r ∧ U / V ≤ q)) (fun a _ => (intOf a).toNat)
  case atStart => exact ⟨q, r, rfl, rfl, hq, by omega, HQ⟩
  case round =>
    obtain ⟨q', r', rfl, rfl, hq', hr', HQ'⟩ := hrel
    obtain ⟨hi, lo, k1, k2, k3, hmul⟩ := mul64n q' n hq' hn
    have hgo : (r' < hi ∨ (hi = r' ∧ u0 < lo)) → 0 < q' ∧ U / V ≤ q' - 1 := by
      intro hc
      have h1 : (u2 * 18446744073709551616 + u1) * 18446744073709551616 + u0 < q' * (t * 18446744073709551616 + n) := by
        have e1 : q' * (t * 18446744073709551616 + n) = q' * t * 18446744073709551616 + (hi * 18446744073709551616 + lo) := by rw [Nat.mul_add, k3, Nat.mul_assoc]
        rw [HQ'.out.1, e1]
        generalize q' * t = T
        rcases hc with h | ⟨rfl, h⟩ <;> omega
      have h2 := HX.out q' h1
      exact ⟨Nat.lt_of_le_of_lt (Nat.zero_le _) h2, Nat.le_sub_one_of_lt h2⟩
    have HGO := Lib.hid hgo
    clear k3 hgo
    by_cases t1 : hi < r'
    · go_wp2_with (go_at_call 72; refine (hmul _).mono ?_; rintro e w' ⟨rfl, rfl⟩)
      go_ret
      exact ⟨⟨q', rfl, hq', HQ'.out.2⟩, HBN.out⟩
    by_cases t3 : hi = r' ∧ lo ≤ u0
    · obtain ⟨rfl, t3⟩ := t3
      go_wp2_with (go_at_call 72; refine (hmul _).mono ?_; rintro e w' ⟨rfl, rfl⟩)
      go_ret
      exact ⟨⟨q', rfl, hq', HQ'.out.2⟩, HBN.out⟩
    obtain ⟨hq1, hUV⟩ := HGO.out (by omega)
    obtain ⟨s, d, s1, s2, s3, hadd⟩ := add64_0 r' t hr' ht1
    have HN := Lib.hid (show d = 0 → u2 * 18446744073709551616 + u1 = (q' - 1) * t + s ∧ U / V ≤ q' - 1 from fun hd => by
      obtain ⟨p, rfl⟩ : ∃ p, q' = p + 1 := ⟨q' - 1, by omega⟩
      refine ⟨?_, hUV⟩
      rw [HQ'.out.1, Nat.add_sub_cancel, Nat.add_mul]
      omega)
    have HUV := Lib.hid hUV
    have iq := IntWalk.u64_in ((q' : Int) - 1) (by omega)
    obtain ⟨p, hp⟩ : ∃ p : Nat, (q' : Int) - 1 = (p : Int) := ⟨q' - 1, by omega⟩
    have hpq : p = q' - 1 := by omega
    have HP := Lib.hid hpq
    clear hUV s3 hpq
    rw [hp] at iq
    by_cases t2 : hi = r'
    · subst t2
      have t4 : u0 < lo := by omega
      clear t3
      by_cases hd : d = 0
      · have HN0 := Lib.hid (HN.out hd)
        clear HN
        subst hd
        go_wp2_with (go_at_call 72; refine (hmul _).mono ?_; rintro e w' ⟨rfl, rfl⟩)
        go_round
        case rel => exact ⟨p, s, by simp, by simp, by omega, s1, by rw [HP.out]; exact HN0.out⟩
        case measure => simp [intOf]; omega
      · obtain rfl : d = 1 := by omega
        go_wp2_with (go_at_call 72; refine (hmul _).mono ?_; rintro e w' ⟨rfl, rfl⟩)
        go_ret
        exact ⟨⟨p, rfl, by omega, by rw [HP.out]; exact HUV.out⟩, HBN.out⟩
    · clear t3
      by_cases hd : d = 0
      · have HN0 := Lib.hid (HN.out hd)
        clear HN
        subst hd
        go_wp2_with (go_at_call 72; refine (hmul _).mono ?_; rintro e w' ⟨rfl, rfl⟩)
        go_round
        case rel => exact ⟨p, s, by simp, by simp, by omega, s1, by rw [HP.out]; exact HN0.out⟩
        case measure => simp [intOf]; omega
      · obtain rfl : d = 1 := by omega
        go_wp2_with (go_at_call 72; refine (hmul _).mono ?_; rintro e w' ⟨rfl, rfl⟩)
        go_ret
        exact ⟨⟨p, rfl, by omega, by rw [HP.out]; exact HUV.out⟩, HBN.out⟩
end Go.Proofs.Ytljgiagdmnedpaa.Nat_
