/-
Contract of the reference's Div.
-/
import Derived.Test.YtpnllalefpkcjaaGreatDoorRefCmp
namespace Go.Proofs.YtpnllalefpkcjaaGreatDoor.Nat_
open Go.RowKit

theorem bel_tr {a w w' : World} (h : Below a.heap.size a w) (h2 : Below w.heap.size w w') : Below a.heap.size a w' := h.trans (h2.mono h.size)
theorem bel_al {a w w' : World} {o : Obj} (h : Below a.heap.size a w) (h2 : Below (w.alloc o).heap.size (w.alloc o) w') : Below a.heap.size a w' := (h.alloc h.size o).trans (h2.mono (Nat.le_trans h.size (by simp)))
theorem nm_one (w : World) (d : Nat) (hd : d < 18446744073709551616) : Nm (w.alloc (.cells #[.int .u64 (d : Int)] 26)) (.slice (some ⟨w.heap.size, 0, none⟩) 1 1) d := by
  refine ⟨[d], ⟨_, 1, 1, rfl, rfl, Nat.le_refl _, by decide, by decide, by simpa using hd, fun _ => ⟨w.heap.size, 0, rfl, by simp, fun i x hi => ?_⟩⟩, by simp [val], by simp⟩
  have hb : Blk (w.alloc (.cells #[.int .u64 (d : Int)] 26)) w.heap.size 26 [.int .u64 (d : Int)] := Blk.new w _ [_]
  rw [Nat.zero_add, hb.cell]
  cases i with
  | zero =>
    obtain rfl : d = x := by simpa using hi
    rfl
  | succ i => simp at hi
/-- What Div tells. -/
def RDiv (w : World) (q r : Nat) (e : Ending) (w' : World) : Prop :=
  ∃ a c a' c', e = .returned (.tuple #[.slice a (nl q) c, .slice a' (nl r) c']) ∧ NN w.heap.size w' (.slice a (nl q) c) q ∧ NN w.heap.size w' (.slice a' (nl r) c') r ∧ Below w.heap.size w w'
/-- A number's slice. -/
theorem NN.form {B : Nat} {w : World} {v : Value} {n : Nat} (h : NN B w v n) : ∃ a c, v = .slice a (nl n) c := h.1.slice
theorem scale_div (x y S : Nat) (hS : 0 < S) : x * S / (y * S) = x / y ∧ x * S % (y * S) = x % y * S :=
  ⟨Nat.mul_div_mul_right x y hS, Nat.mul_mod_mul_right S x y⟩
/-- Sizes of what the division makes. -/
theorem div_sizes {x y s K : Nat} (hx : x < 4294967296 ^ K) (hy : y < 4294967296 ^ K) (hs : s < 32) : x * 2 ^ s < 4294967296 ^ (K + 1) ∧ y * 2 ^ s < 4294967296 ^ (K + 1) := by
  have h2 : 2 ^ s ≤ 4294967296 := Nat.pow_le_pow_right (n := 2) (by decide) (show s ≤ 32 by omega)
  have hp : 0 < 2 ^ s := Nat.pow_pos (by decide)
  rw [Nat.pow_succ]
  exact ⟨Nat.lt_of_lt_of_le ((Nat.mul_lt_mul_right hp).2 hx) (Nat.mul_le_mul_left _ h2), Nat.lt_of_lt_of_le ((Nat.mul_lt_mul_right hp).2 hy) (Nat.mul_le_mul_left _ h2)⟩
theorem nl_200 {n k : Nat} (h : n < 4294967296 ^ k) : nl n ≤ (k + 1) / 2 := nl_pow (lt_pow_mono h (by omega))
theorem dgt_top {Y n : Nat} (h1 : Y < 4294967296 ^ n) (h2 : 4294967296 ^ (n - 1) ≤ Y) (hn : 1 ≤ n) : 0 < dgt Y (n - 1) := by
  have h := div_succ Y (n - 1)
  rw [Nat.sub_add_cancel hn, Nat.div_eq_of_lt h1, Nat.mul_zero, Nat.add_zero] at h
  rw [← h]
  exact (Nat.le_div_iff_mul_le (dpos _)).2 (by rw [Nat.one_mul]; exact h2)
/-- The guess, in numbers as the walk comes to them. -/
theorem guess_facts {d0 d1 yt t : Nat} (h0 : d0 < 4294967296) (h1 : d1 < 4294967296) (ht : t ≤ min ((d0 * 4294967296 + d1) / yt) 4294967295) :
    ∃ m nu qt g : Nat, (d0 : Int) * 4294967296 = (m : Int) ∧ (m : Int) + (d1 : Int) = (nu : Int) ∧ (nu : Int) < 18446744073709551616 ∧ (nu : Int) / (yt : Int) = (qt : Int) ∧ (qt : Int) ≤ (nu : Int) ∧ min (qt : Int) 4294967295 = (g : Int) ∧ (t ≤ g ∧ g ≤ 4294967295) := by
  have hdl := Nat.div_le_self (d0 * 4294967296 + d1) yt
  refine ⟨d0 * 4294967296, d0 * 4294967296 + d1, (d0 * 4294967296 + d1) / yt, min ((d0 * 4294967296 + d1) / yt) 4294967295, by omega, by omega, by omega, (Int.natCast_ediv _ _).symm, by omega, by omega, ht, Nat.min_le_right _ _⟩
/-- Sizes of what a round of the division makes. -/
theorem div_bounds {Y r d K : Nat} (hY : Y < 4294967296 ^ (K + 1)) (hr : r * 4294967296 + d < Y * 4294967296) :
    nl (r * 4294967296 + d) ≤ (K + 3) / 2 ∧ (∀ g, g < 4294967296 → nl (Y * g) ≤ (K + 3) / 2) ∧ nl (r * 2 ^ 32) ≤ (K + 3) / 2 := by
  have h1 : Y * 4294967296 < 4294967296 ^ (K + 2) := by
    rw [show K + 2 = (K + 1) + 1 from rfl, Nat.pow_succ]
    exact (Nat.mul_lt_mul_right (by decide)).2 hY
  refine ⟨nl_200 (Nat.lt_trans hr h1), fun g hg => nl_200 (Nat.lt_of_le_of_lt (Nat.mul_le_mul_left Y (Nat.le_of_lt hg)) h1), ?_⟩
  refine nl_200 (k := K + 2) ?_
  rw [show (2 : Nat) ^ 32 = 4294967296 by decide]
  exact Nat.lt_trans (Nat.lt_of_le_of_lt (Nat.le_add_right _ d) hr) h1
set_option maxRecDepth 100000 in
set_option maxHeartbeats 4000000 in
theorem rdiv_any (v u : Value) (x y K : Nat) (w : World) (hv : Nm w v x) (hu : Nm w u y) (hK : K ≤ 200000) (hx : x < 4294967296 ^ K) (hy : y < 4294967296 ^ K) (hy0 : 0 < y) :
    Calls Tryz.prog 83 #[v, u] w (RDiv w (x / y) (x % y)) := by
  obtain ⟨va, vl, vc, hvs, -, -, -⟩ := hv.slice
  obtain ⟨ua, ul, uc, hus, -, -, -⟩ := hu.slice
  subst hvs hus
  have cb := rbits_any _ y w hu
  obtain ⟨b, hb⟩ : ∃ b, nbits y = b := ⟨_, rfl⟩
  obtain ⟨S, hS⟩ : ∃ S, (32 - b % 32) % 32 = S := ⟨_, rfl⟩
  have hS32 : S < 32 := by omega
  obtain ⟨b0, hb0⟩ : ∃ b0, b % 32 = b0 := ⟨_, rfl⟩
  have q1 : (b : Int) % 32 = (b0 : Int) := by omega
  have q2 : ((32 : Int) - (b0 : Int)) % 32 = (S : Int) := by omega
  have hb32 : b0 < 32 := by omega
  obtain ⟨hXs, hYs⟩ := div_sizes (s := S) hx hy hS32
  obtain ⟨hdq, hdr⟩ := scale_div x y (2 ^ S) (Nat.pow_pos (by decide))
  have hY0 : y * 2 ^ S ≠ 0 := Nat.ne_of_gt (Nat.mul_pos hy0 (Nat.pow_pos (by decide)))
  have c1 := rshl_any _ x S w hv (by omega) (by have := nl_200 hXs; omega)
  have c2 := fun w1 (hb : Below w.heap.size w w1) => rshl_any _ y S w1 (hu.below hb) (by omega) (by have := nl_200 hYs; omega)
  have c0 := fun w1 (hb : Below w.heap.size w w1) => rnorm_any _ x w1 (hv.below hb)
  obtain ⟨X, hX⟩ : ∃ X, x * 2 ^ S = X := ⟨_, rfl⟩
  obtain ⟨Y, hY⟩ : ∃ Y, y * 2 ^ S = Y := ⟨_, rfl⟩
  rw [hX] at hXs hdq hdr c1
  rw [hY] at hYs hdq hdr hY0 c2
  have hm1 := ndg_lt X
  have hn1 := ndg_lt Y
  obtain ⟨hn2, hn3⟩ := ndg_top Y hY0
  have hm4 := ndg_le hXs
  have hn4 := ndg_le hYs
  have cm := fun w1 v1 h => rdigits_any v1 X w1 h (by omega)
  have cn := fun w1 v1 h => rdigits_any v1 Y w1 h (by omega)
  rw [hb] at cb
  obtain ⟨m, hm⟩ : ∃ m, ndg X = m := ⟨_, rfl⟩
  obtain ⟨n, hn⟩ : ∃ n, ndg Y = n := ⟨_, rfl⟩
  rw [hm] at hm1 hm4 cm
  rw [hn] at hn1 hn2 hn3 hn4 cn
  have hnz : ((n : Int) == 0) = false := by rw [beq_eq_false_iff_ne]; omega
  have HXY := Lib.hid (And.intro hX hY)
  have CB := Lib.hid cb
  have C0 := Lib.hid c0
  have C1 := Lib.hid c1
  have C2 := Lib.hid c2
  have CM := Lib.hid cm
  have CN := Lib.hid cn
  have HF := Lib.hid (And.intro hdq hdr)
  have HS := Lib.hid (And.intro hXs (And.intro hYs (And.intro hm1 (And.intro hn1 (And.intro hn3 (And.intro hy0 hY0))))))
  clear cb c0 c1 c2 cm cn hdq hdr hXs hYs hm1 hn1 hn3 hY0 hX hY hm hn hb hS hb0 hx hy hy0
  go_enter Tryz.func83, Tryz.ntmps83
  go_wp2_with fail
  refine CB.out.mono ?_
  rintro e w0 ⟨rfl, rfl⟩
  go_wp2_with fail
  refine C1.out.mono ?_
  rintro e w1 ⟨a1, e1, rfl, hn1, hb1⟩
  go_wp2_with fail
  refine (C2.out w1 hb1).mono ?_
  rintro e w2 ⟨a2, e2, rfl, hn2, hb2⟩
  have HB2 := Lib.hid (hb1.trans (hb2.mono hb1.size))
  have HX := Lib.hid (NN.nm (hn1.below hb2))
  have HY := Lib.hid (NN.nm hn2)
  clear hn1 hb1 hn2 hb2
  have hly : nl Y ≤ 100010 := by have := nl_200 HS.out.2.1; omega
  generalize nl X = lx at *
  generalize nl Y = ly at *
  go_wp2_with fail
  refine (CM.out w2 _ HX.out).mono ?_
  rintro e w2 ⟨rfl, rfl⟩
  go_wp2_with fail
  refine (CN.out w2 _ HY.out).mono ?_
  rintro e w2 ⟨rfl, rfl⟩
  by_cases hmn : m < n
  · have dmn : decide (m < n) = true := decide_eq_true hmn
    have hxy : x < y := by
      have h1 := Nat.lt_of_lt_of_le (lt_pow_mono HS.out.2.2.1 (show m ≤ n - 1 by omega)) HS.out.2.2.2.2.1
      rw [← HXY.out.1, ← HXY.out.2] at h1
      exact (Nat.mul_lt_mul_right (Nat.pow_pos (by decide))).1 h1
    have HQ := Lib.hid (And.intro (Nat.div_eq_of_lt hxy) (Nat.mod_eq_of_lt hxy))
    clear hxy
    go_wp2_with fail
    refine (C0.out w2 HB2.out).mono ?_
    rintro e w3 ⟨a3, e3, rfl, hn3, hb3⟩
    go_wp2_with fail
    go_ret2
    have hsz := HB2.out.size
    refine ⟨none, 0, a3, e3, ?_, ?_, ?_, HB2.out.trans (hb3.mono hsz)⟩
    · rw [HQ.out.1, HQ.out.2]; rfl
    · rw [HQ.out.1]; exact NN.nil _ _
    · rw [HQ.out.2]; exact hn3.ge hsz
  have dmn : decide (m < n) = false := decide_eq_false hmn
  obtain ⟨k, hk⟩ : ∃ k, m - n + 1 = k := ⟨_, rfl⟩
  have hkI : (m : Int) - (n : Int) + 1 = (k : Int) := by omega
  have hk0 : 1 ≤ k := by omega
  have hk3 : k ≤ 200002 := by omega
  obtain ⟨Z, hZ⟩ : ∃ Z : List Value, Z = (List.replicate k 0).map limbV := ⟨_, rfl⟩
  have hmk : ∀ V : World, (Instr.makeSlice 44 (.int .i64 (k : Int)) (.int .i64 (k : Int))).run Tryz.prog V = .ok (.slice (some ⟨V.heap.size, 0, none⟩) k k) (V.alloc (.cells Z.toArray 26)) := by
    intro V
    have h := run_make_row' (P := Tryz.prog) 44 26 _ 8 Tryz.underlying44 Tryz.limbInfo rfl .i64 .i64 k (by omega) (by omega) V
    rw [toList_made] at h
    rw [hZ]
    simpa [limbV] using h
  have hal : Below w2.heap.size w2 (w2.alloc (.cells Z.toArray 26)) := (Below.refl _ _).alloc (Nat.le_refl _) _
  have hZb : Blk (w2.alloc (.cells Z.toArray 26)) w2.heap.size 26 ((List.replicate k 0).map limbV) := by
    rw [← hZ]; exact Blk.new _ _ _
  have c4 := rshr_any _ X (32 * k) _ (HX.out.below hal) (by omega)
  rw [show X / 2 ^ (32 * k) = X / 4294967296 ^ k by rw [pow32']] at c4
  obtain ⟨z32, hz32⟩ : ∃ z, 32 * k = z := ⟨_, rfl⟩
  rw [hz32] at c4
  have hkk : (32 : Int) * (k : Int) = (z32 : Int) := by omega
  have hz33 : z32 ≤ 10000000 := by omega
  have C4 := Lib.hid c4
  have hst := DivD.start (X := X) (Y := Y) (n := n - 1) (k := k) (by rw [show n - 1 + k = m by omega]; exact HS.out.2.2.1) HS.out.2.2.2.2.1
  have HST := Lib.hid hst
  have HAL := Lib.hid hal
  have HZB := Lib.hid hZb
  have hlt4 : k ≤ m := by omega
  clear c4 hst hal hZb hZ hz32
  go_wp2_with fail
  refine C4.out.mono ?_
  rintro e w4 ⟨a4, e4, rfl, hn4', hb4⟩
  go_wp2_with fail
  obtain ⟨G, hG⟩ : ∃ G, w2.heap.size = G := ⟨_, rfl⟩
  have HG := Lib.hid hG
  have hr4 : NN (G + 1) w4 (.slice a4 (nl (X / 4294967296 ^ k)) e4) (X / 4294967296 ^ k) := hn4'.ge (by simp [hG])
  have hQ4 : Blk w4 G 26 ((List.replicate k 0).map limbV) := by rw [← hG]; exact HZB.out.below hb4 HZB.out.lt
  have hB4 : Below w2.heap.size w2 w4 := HAL.out.trans (hb4.mono HAL.out.size)
  have HR4 := Lib.hid hr4
  have HQ4 := Lib.hid hQ4
  have HB4 := Lib.hid hB4
  rw [hG]
  clear hG hr4 hQ4 hB4 hn4' hb4 hmk q1 q2
  go_loopw [12, 13] (fun rv iv wr => ∃ (i r : Nat) (Q : List Nat) (ra : Option Addr) (rc : Nat), i ≤ k ∧ iv = .int .i64 ((i : Int) - 1) ∧ rv = .slice ra (nl r) rc ∧ Hid (DivD X Y k i r Q) ∧ Hid (NN (G + 1) wr (.slice ra (nl r) rc) r) ∧ Hid (Blk wr G 26 (Q.map limbV)) ∧ Hid (Below w2.heap.size w2 wr)) (fun _ iv _ => (intOf iv + 1).toNat)
  case atStart => exact ⟨k, _, _, a4, e4, Nat.le_refl _, by rw [← hkI]; simp, rfl, HST, HR4, HQ4, HB4⟩
  case round =>
    clear HST HR4 HQ4 HB4 HZB HAL C4
    obtain ⟨i, r, Q, ra, rc, hi, rfl, rfl, HD, HR, HQ, HB⟩ := hrel
    have hszr := HB.out.size
    cases i with
    | zero =>
      obtain ⟨hq, hr⟩ := HD.out.fin
      have hqn : nl (X / Y) ≤ 1000000 := by
        have h1 := nl_le (Nat.div_le_self X Y)
        have h2 := nl_200 HS.out.1
        omega
      have hLb : Lb wr (.slice (some ⟨G, 0, none⟩) k k) Q := by
        refine ⟨_, _, _, rfl, HD.out.1, Nat.le_refl _, by unfold maxLen; omega, by omega, fun z hz => by have := HD.out.2.1 z hz; omega, fun _ => ⟨G, 0, rfl, HQ.out.lt, fun i z hi => ?_⟩⟩
        rw [Nat.zero_add, HQ.out.cell, List.getElem?_map, hi]
        rfl
      have cmade := rmade_lb _ Q wr hLb HD.out.2.1 (by have := HD.out.1; omega) (by rw [hq]; exact hqn)
      rw [hq, HF.out.1] at cmade
      have cshr := fun w' (hb : Below wr.heap.size wr w') => rshr_any _ r S w' (HR.out.nm.below hb) (by omega)
      have hrS : r / 2 ^ S = x % y := by rw [hr, HF.out.2, Nat.mul_div_cancel _ (Nat.pow_pos (by decide))]
      rw [hrS] at cshr
      have CMD := Lib.hid cmade
      have CSH := Lib.hid cshr
      clear hq hr hqn hLb cmade cshr hrS
      go_wp2_with fail
      refine CMD.out.mono ?_
      rintro e v1 ⟨b1, f1, rfl, hm1, ha1⟩
      go_wp2_with fail
      refine (CSH.out v1 ha1).mono ?_
      rintro e v2 ⟨b2, f2, rfl, hm2, ha2⟩
      go_wp2_with fail
      go_ret2
      have hs0 := HB2.out.size
      have hs1 := Nat.le_trans hs0 hszr
      have hs2 := Nat.le_trans hs1 ha1.size
      exact ⟨b1, f1, b2, f2, rfl, (hm1.below ha2).ge hs1, hm2.ge hs2, bel_tr (bel_tr (HB2.out.trans (HB.out.mono hs0)) ha1) ha2⟩
    | succ j =>
      have hj1 : ((j + 1 : Nat) : Int) - 1 = (j : Int) := by omega
      have hjk : j < 200002 := by omega
      have hrY := HD.out.2.2.2.2
      have hrs : r * 4294967296 + dgt X j < Y * 4294967296 := by have := dgt_lt X j; omega
      have hYb := HS.out.2.1
      have hK3 : (K + 3) / 2 ≤ 1000000 := by omega
      obtain ⟨hr1, hp1, hr0⟩ := div_bounds hYb hrs
      have c1 := rshl_any _ r 32 wr HR.out.nm (by decide) (Nat.le_trans hr0 hK3)
      clear hr0
      have c2 := fun w' (hb : Below w2.heap.size w2 w') => rdigit_any _ X j w' (HX.out.below hb) (by omega)
      rw [hj1]
      have C1' := Lib.hid c1
      have C2' := Lib.hid c2
      have hgs := guess_ge (n := n - 1) hrs (by rw [Nat.sub_add_cancel hn2]; exact HS.out.2.2.2.1) (dgt_top HS.out.2.2.2.1 HS.out.2.2.2.2.1 hn2)
      rw [Nat.sub_add_cancel hn2] at hgs
      obtain ⟨r1, hr1e⟩ : ∃ r1, r * 4294967296 + dgt X j = r1 := ⟨_, rfl⟩
      rw [hr1e] at hgs hrs hr1
      have hdx := dgt_lt X j
      have HR1 := Lib.hid hr1e
      have HSTEP := Lib.hid (fun g (hg : g = r1 / Y) (h32 : g < 4294967296) => HD.out.step (by omega) hr1e.symm hg h32)
      have hdx64 : dgt X j < 18446744073709551616 := by omega
      have e32 : r * 2 ^ 32 + dgt X j = r1 := by rw [← HR1.out]
      have c3 := fun w' v' (h : Nm w' v' (r * 2 ^ 32)) => radd_any v' _ (r * 2 ^ 32) (dgt X j) (w'.alloc (.cells #[.int .u64 (dgt X j : Int)] 26)) (h.below ((Below.refl _ _).alloc (Nat.le_refl _) _)) (nm_one w' (dgt X j) hdx64) (by rw [e32]; omega)
      rw [e32] at c3
      have C3' := Lib.hid c3
      have hnr1 : nl r1 ≤ 1000000 := by omega
      generalize dgt X j = dx at *
      clear c1 c2 c3 hrs e32 hr1e hdx
      go_wp2_with fail
      refine C1'.out.mono ?_
      rintro e v1 ⟨b1, f1, rfl, hm1, ha1⟩
      have hB1 := HB.out.trans (ha1.mono hszr)
      go_wp2_with fail
      refine (C2'.out v1 hB1).mono ?_
      rintro e v1 ⟨rfl, rfl⟩
      go_wp2_with fail
      refine (C3'.out _ _ hm1.nm).mono ?_
      rintro e v2 ⟨b2, f2, rfl, hm2, ha2⟩
      have hB2 := bel_al hB1 ha2
      have hbr2 : Below wr.heap.size wr v2 := bel_al ha1 ha2
      obtain ⟨d0, hd0⟩ : ∃ d0, dgt r1 n = d0 := ⟨_, rfl⟩
      obtain ⟨d1, hd1⟩ : ∃ d1, dgt r1 (n - 1) = d1 := ⟨_, rfl⟩
      obtain ⟨yt, hyt⟩ : ∃ yt, dgt Y (n - 1) = yt := ⟨_, rfl⟩
      obtain ⟨n1, hn1⟩ : ∃ n1, n - 1 = n1 := ⟨_, rfl⟩
      have hn1I : (n : Int) - 1 = (n1 : Int) := by omega
      have g1 := dgt_lt r1 n
      have g2 := dgt_lt r1 (n - 1)
      have g3 := dgt_lt Y (n - 1)
      have g4 := dgt_top HS.out.2.2.2.1 HS.out.2.2.2.2.1 hn2
      have cd0 := rdigit_any _ r1 n v2 hm2.nm (by omega)
      have cd1 := rdigit_any _ r1 (n - 1) v2 hm2.nm (by omega)
      have cd2 := rdigit_any _ Y (n - 1) v2 (HY.out.below hB2) (by omega)
      rw [hd0] at g1 cd0 hgs
      rw [hd1] at g2 cd1 hgs
      rw [hyt] at g3 g4 cd2 hgs
      rw [hn1] at cd1 cd2
      obtain ⟨m0, nu, qt, g0, k1, k2, k3, k4, k5, k6, k7⟩ := guess_facts g1 g2 hgs
      have CD0 := Lib.hid cd0
      have CD1 := Lib.hid cd1
      have CD2 := Lib.hid cd2
      have hytz : ((yt : Int) == 0) = false := by rw [beq_eq_false_iff_ne]; omega
      clear cd0 cd1 cd2 hd0 hd1 hyt hn1 hgs
      go_wp2_with fail
      refine CD0.out.mono ?_
      rintro e v2 ⟨rfl, rfl⟩
      go_wp2_with fail
      refine CD1.out.mono ?_
      rintro e v2 ⟨rfl, rfl⟩
      go_wp2_with fail
      refine CD2.out.mono ?_
      rintro e v2 ⟨rfl, rfl⟩
      go_wp2_with fail
      have cmul := rmul_any (.slice a2 ly e2) _ Y g0 (v2.alloc (.cells #[.int .u64 (g0 : Int)] 26)) (HY.out.below (hB2.alloc hB2.size _)) (nm_one v2 g0 (by omega)) (Nat.le_trans (hp1 g0 (by omega)) hK3)
        (by
          intro a len cap a' len' cap' he he'
          injection he with h1 h2 h3
          injection he' with h4 h5 h6
          omega)
      refine cmul.mono ?_
      rintro e v3 ⟨b3, f3, rfl, hm3, ha3⟩
      have ha23 : Below v2.heap.size v2 v3 := bel_al (Below.refl _ _) ha3
      have hsz2 : G + 1 ≤ v2.heap.size := by have := hbr2.size; have := HQ.out.lt; omega
      have HM3 := Lib.hid (hm3.ge (show G + 1 ≤ _ from by simp; omega))
      have HA3 := Lib.hid ha23
      have HM2 := Lib.hid hm2
      have HB2' := Lib.hid hB2
      have HBR := Lib.hid hbr2
      have HP1 := Lib.hid hp1
      have HK := Lib.hid k7
      clear cmul ha3 hm3 ha23 hm2 hB2 hbr2 hp1 k7 k1 k2 k3 k4 k5 k6 hytz hB1 hm1 ha1 ha2
      go_wp2_with fail
      go_loopw [14, 15] (fun gv pv wi => ∃ (g : Nat) (pa : Option Addr) (pc : Nat), gv = .int .u64 (g : Int) ∧ pv = .slice pa (nl (Y * g)) pc ∧ Hid (r1 / Y ≤ g ∧ g ≤ 4294967295) ∧ Hid (NN (G + 1) wi (.slice pa (nl (Y * g)) pc) (Y * g)) ∧ Hid (Below v2.heap.size v2 wi)) (fun gv _ _ => (intOf gv).toNat)
      case atStart => exact ⟨g0, b3, f3, rfl, rfl, HK, HM3, HA3⟩
      case round =>
        rename World => wi
        clear HK HM3 HA3
        obtain ⟨g, pa, pc, rfl, rfl, HK, HM3, HA3⟩ := hrel
        have hgb := HK.out.2
        have hB2 := bel_tr HB2'.out HA3.out
        have hm2 := HM2.out.nm.below HA3.out
        have hY2 := HY.out.below hB2
        have ccmp := rcmp_any _ _ (Y * g) r1 wi HM3.out.nm hm2
        by_cases hgt : r1 < Y * g
        · have hcm : cmpN (Y * g) r1 = 1 := by unfold cmpN; rw [if_neg (by omega), if_pos hgt]
          rw [hcm] at ccmp
          have hg1 : 1 ≤ g := by
            rcases Nat.eq_zero_or_pos g with h | h
            · rw [h, Nat.mul_zero] at hgt; omega
            · exact h
          obtain ⟨g', hg'⟩ : ∃ g', g = g' + 1 := ⟨g - 1, by omega⟩
          have hlt : r1 / Y < g := by
            rw [Nat.div_lt_iff_lt_mul (Nat.pos_of_ne_zero HS.out.2.2.2.2.2.2), Nat.mul_comm]
            exact hgt
          have hsub : Y * g - Y = Y * g' := by rw [hg', Nat.mul_add, Nat.mul_one, Nat.add_sub_cancel]
          have csub := rsub_any _ _ (Y * g) Y wi HM3.out.nm hY2 (by rw [hg', Nat.mul_add, Nat.mul_one]; exact Nat.le_add_left _ _)
          rw [hsub] at csub
          have hgI : (g : Int) - 1 = (g' : Int) := by omega
          have hg1' : g' ≤ 4294967295 := by omega
          have HK2 := Lib.hid (show r1 / Y ≤ g' ∧ g' ≤ 4294967295 from ⟨by omega, by omega⟩)
          have CC := Lib.hid ccmp
          have CS := Lib.hid csub
          have hszi : G + 1 ≤ wi.heap.size := Nat.le_trans hsz2 HA3.out.size
          have hgg := Lib.hid hg'
          clear ccmp csub hcm hsub hlt hgt hm2 hY2 hg' hB2
          go_wp2_with fail
          refine CC.out.mono ?_
          rintro e wi ⟨rfl, rfl⟩
          go_wp2_with fail
          refine CS.out.mono ?_
          rintro e wj ⟨pb, pd, rfl, hm5, ha5⟩
          have HM5 := Lib.hid (hm5.ge hszi)
          have HA5 := Lib.hid (bel_tr HA3.out ha5)
          clear hm5 ha5
          go_wp2_with fail
          go_roundw
          have hmeas : g' < g := by rw [hgg.out]; exact Nat.lt_succ_self _
          first
            | exact ⟨⟨g', pb, pd, rfl, rfl, HK2, HM5, HA5⟩, by simp [intOf]; omega⟩
            | (case rel => exact ⟨g', pb, pd, rfl, rfl, HK2, HM5, HA5⟩
               case measure => simp [intOf]; omega)
        · have hc0 : cmpN (Y * g) r1 ≤ 0 := by unfold cmpN; split <;> (first | decide | (split <;> (first | omega | decide)))
          have hYp : 0 < Y := Nat.pos_of_ne_zero HS.out.2.2.2.2.2.2
          have hge : g = r1 / Y := Nat.le_antisymm ((Nat.le_div_iff_mul_le hYp).2 (by rw [Nat.mul_comm]; omega)) HK.out.1
          have hst := HSTEP.out g hge (by omega)
          rw [Nat.mul_comm g Y] at hst
          have csub := rsub_any _ _ r1 (Y * g) wi hm2 HM3.out.nm (by omega)
          generalize cmpN (Y * g) r1 = cv at *
          have CC := Lib.hid ccmp
          have CS := Lib.hid csub
          have HST := Lib.hid hst
          have hszi : G + 1 ≤ wi.heap.size := Nat.le_trans hsz2 HA3.out.size
          have hbrw := HBR.out.trans (HA3.out.mono HBR.out.size)
          have HQ2 := Lib.hid (HQ.out.below hbrw HQ.out.lt)
          have hQl := Lib.hid HD.out.1
          have HBW := Lib.hid hB2
          clear ccmp csub hst hge hm2 hY2 hB2 hgt hbrw
          go_wp2_with fail
          refine CC.out.mono ?_
          rintro e wi ⟨rfl, rfl⟩
          go_wp2_with fail
          refine CS.out.mono ?_
          rintro e wj ⟨pb, pd, rfl, hm5, ha5⟩
          have hQ3 := HQ2.out.below ha5 HQ2.out.lt
          have hf := hQ3.frozen j (by rw [List.length_map, hQl.out]; omega)
          have hlt5 := hQ3.lt
          have hcell := limb_cell hQ3 j (by rw [hQl.out]; omega)
          have hQ4 := hQ3.set_ j (.int .u64 (g : Int))
          rw [map_limb_set] at hQ4
          have HQ4 := Lib.hid hQ4
          have HM5 := Lib.hid (nn_set (hm5.ge hszi) G j (.int .u64 (g : Int)) (Nat.lt_succ_self G))
          have HB5 := Lib.hid ((bel_tr HBW.out ha5).setCell (p := ⟨G, j, none⟩) (by show w2.heap.size ≤ G; rw [HG.out]; exact Nat.le_refl _) (.int .u64 (g : Int)))
          have hjk3 : j < k := by omega
          clear hm5 ha5 hQ3 hQ4
          go_wp2_with fail
          go_roundw
          first
            | exact ⟨⟨j, _, _, pb, pd, by omega, by simp, rfl, HST, HM5, HQ4, HB5⟩, by simp [intOf]⟩
            | (case rel => exact ⟨j, _, _, pb, pd, by omega, rfl, rfl, HST, HM5, HQ4, HB5⟩
               case measure => simp [intOf])
end Go.Proofs.YtpnllalefpkcjaaGreatDoor.Nat_
