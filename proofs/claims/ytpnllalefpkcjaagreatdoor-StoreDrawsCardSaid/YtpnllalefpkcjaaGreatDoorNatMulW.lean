/-
nat.Mul: the product, or that it is too long.
-/
import Derived.Test.YtpnllalefpkcjaaGreatDoorNatAdd
import Derived.Test.YtpnllalefpkcjaaGreatDoorNatA
import Derived.Lib.Strings
namespace Go.Proofs.YtpnllalefpkcjaaGreatDoor.Nat_
open Go.RowKit

theorem mul64_any (a b : Int) (w : World) (h0 : 0 ≤ a) (h1 : a < 18446744073709551616) (g0 : 0 ≤ b) (g1 : b < 18446744073709551616) :
    Calls Tryz.prog 107 #[.int .u64 a, .int .u64 b] w fun e w' => e = .returned (.tuple #[.int .u64 (a * b / 18446744073709551616), .int .u64 (a * b % 18446744073709551616)]) ∧ w = w' := by
  have ha := and32 a h0 h1
  have hb := and32 b g0 g1
  have hc := and32 (a / 4294967296 * (b % 4294967296) + a % 4294967296 * (b % 4294967296) / 4294967296)
  have ⟨p1, p2⟩ := half_bd (a := a % 4294967296) (b := b % 4294967296) (by omega) (by omega) (by omega) (by omega)
  have ⟨p3, p4⟩ := half_bd (a := a / 4294967296) (b := b % 4294967296) (by omega) (by omega) (by omega) (by omega)
  have ⟨p5, p6⟩ := half_bd (a := a % 4294967296) (b := b / 4294967296) (by omega) (by omega) (by omega) (by omega)
  have ⟨p7, p8⟩ := half_bd (a := a / 4294967296) (b := b / 4294967296) (by omega) (by omega) (by omega) (by omega)
  have ⟨q1, q2⟩ := hi_bd a b h0 h1 g0 g1
  have he := mul_end a b h0 h1 g0 g1
  have hc := hc (by omega) (by omega)
  have HE := Lib.hid he
  clear he
  go_enter Tryz.func107, Tryz.ntmps107
  go_wp2
  go_ret2
  exact ⟨ret_int2 HE.out (IntKind.wrap_u64 _), rfl⟩
/-- math/bits.Mul64 in natural numbers. -/
theorem mul64n (a b : Nat) (ha : a < 18446744073709551616) (hb : b < 18446744073709551616) :
    ∃ h l : Nat, h < 18446744073709551616 ∧ l < 18446744073709551616 ∧ a * b = h * 18446744073709551616 + l ∧ ∀ w : World,
      Calls Tryz.prog 107 #[.int .u64 (a : Int), .int .u64 (b : Int)] w fun e w' => e = .returned (.tuple #[.int .u64 (h : Int), .int .u64 (l : Int)]) ∧ w = w' := by
  have hm : a * b ≤ 18446744073709551615 * 18446744073709551615 := Nat.mul_le_mul (by omega) (by omega)
  refine ⟨a * b / 18446744073709551616, a * b % 18446744073709551616, by omega, by omega, by omega, fun w => ?_⟩
  refine (mul64_any a b w (by omega) (by omega) (by omega) (by omega)).mono ?_
  rintro e w' ⟨rfl, rfl⟩
  exact ⟨by simp, rfl⟩

theorem toList_made (z : Value) (n : Nat) : madeCells #[z] n = (List.replicate n z).toArray := by
  apply Array.ext'
  rw [toList_madeCells_one]
theorem map_limb_set (O : List Nat) (i y : Nat) : (O.map limbV).set i (.int .u64 (y : Int)) = (O.set i y).map limbV := by rw [List.map_set]; rfl
theorem limb_cell {w : World} {G : Nat} {t : TypeId} {O : List Nat} (h : Blk w G t (O.map limbV)) (i : Nat) (hi : i < O.length) : w.cell? ⟨G, i, none⟩ = some (.int .u64 (digit O i : Int)) := by
  rw [h.cell, List.getElem?_map, List.getElem?_eq_getElem hi, digit_get O i hi]
  rfl
theorem lb_cell {w : World} {b off : Nat} {len cap : Nat} {l : List Nat} (h : Lb w (.slice (some ⟨b, off, none⟩) len cap) l) (i : Nat) (hi : i < l.length) : w.cell? ⟨b, off + i, none⟩ = some (.int .u64 (digit l i : Int)) := by
  obtain ⟨a', len', cap', he, h1, h2, h3, h0, h4, h5⟩ := h
  obtain ⟨hb, rfl, rfl⟩ : some (⟨b, off, none⟩ : Addr) = a' ∧ len = len' ∧ cap = cap' := by simpa using he
  obtain ⟨b', off', ha, -, hc⟩ := h5 (by omega)
  rw [← hb] at ha
  obtain ⟨rfl, rfl⟩ : b = b' ∧ off = off' := by simpa using ha
  have := hc i _ (List.getElem?_eq_getElem hi)
  rw [this, digit_get l i hi]
  rfl
theorem lb_addr {w : World} {a : Option Addr} {len cap : Nat} {l : List Nat} (h : Lb w (.slice a len cap) l) (hl : 0 < l.length) : ∃ b off, a = some ⟨b, off, none⟩ ∧ b < w.heap.size := by
  obtain ⟨a', len', cap', he, h1, h2, h3, h0, h4, h5⟩ := h
  obtain ⟨rfl, rfl, rfl⟩ : a = a' ∧ len = len' ∧ cap = cap' := by simpa using he
  obtain ⟨b', off', ha, hb, -⟩ := h5 (by omega)
  exact ⟨b', off', ha, hb⟩

set_option maxRecDepth 100000 in
set_option maxHeartbeats 4000000 in
theorem mul_ok (v u : Value) (x y : Nat) (w : World) (hv : Nm w v x) (hu : Nm w u y) (hx : x < Lim) (hy : y < Lim) :
    Calls Tryz.prog 87 #[v, u] w fun e w' => Told w.heap.size w' (x * y) e ∧ Below w.heap.size w w' := by
  have hnx := (nl_iff x).2 hx
  have hny := (nl_iff y).2 hy
  go_enter Tryz.func87, Tryz.ntmps87
  go_wp2_with fail
  refine (normal_any v x _ hv).mono ?_
  rintro e w1 ⟨a1, c1, rfl, hn1, hb1⟩
  go_wp2_with fail
  refine (normal_any u y _ (hu.below hb1)).mono ?_
  rintro e w2 ⟨a2, c2, rfl, hn2, hb2⟩
  have hn1' := hn1.below hb2
  go_wp2_with fail
  refine (long2_no _ _ _ _ _ _ _ rfl hn1'.nm hn2.nm hx hy).mono ?_
  rintro e w3 ⟨rfl, hb3⟩
  obtain ⟨W, hW⟩ : ∃ W, w3 = W := ⟨_, rfl⟩
  rw [hW] at hb3 ⊢
  clear hW
  have hb3' := ((Below.refl w2.heap.size w2).alloc (Nat.le_refl _) (.cells #[.slice a1 (nl x) c1, .slice a2 (nl y) c2] 45)).trans (hb3.mono (by simp))
  have hl1 : Lb W (.slice a1 (nl x) c1) (limbs x) := hn1'.1.lb.below hb3'
  have hl2 : Lb W (.slice a2 (nl y) c2) (limbs y) := hn2.1.lb.below hb3'
  have hbW : Below w.heap.size w W := (hb1.trans (hb2.mono hb1.size)).trans (hb3'.mono (Nat.le_trans hb1.size hb2.size))
  clear hb3 hb3' hn1 hn1' hn2 hb1 hb2 hv hu
  have hln : (limbs x).length = nl x := rfl
  have hlm : (limbs y).length = nl y := rfl
  have hlt1 := limbs_lt x
  have hlt2 := limbs_lt y
  have hvx := val_limbs x
  have hvy := val_limbs y
  generalize limbs x = l at *
  generalize limbs y = m at *
  generalize nl x = nx at *
  generalize nl y = ny at *
  have A : Go.Aside ((∀ x ∈ l, x < 18446744073709551616) ∧ (∀ x ∈ m, x < 18446744073709551616) ∧ val l = x ∧ val m = y ∧ Below w.heap.size w W) := ⟨hlt1, hlt2, hvx, hvy, hbW⟩
  clear hlt1 hlt2 hvx hvy hbW
  obtain ⟨Z, hZ⟩ : ∃ Z : List Value, Z = (List.replicate (l.length + m.length) 0).map limbV := ⟨_, rfl⟩
  have hmk : ∀ V : World, (Instr.makeSlice 45 (.int .i64 ((nx : Int) + (ny : Int))) (.int .i64 ((nx : Int) + (ny : Int)))).run Tryz.prog V = .ok (.slice (some ⟨V.heap.size, 0, none⟩) (nx + ny) (nx + ny)) (V.alloc (.cells Z.toArray 26)) := by
    intro V
    have h := run_make_row' (P := Tryz.prog) 45 26 _ 8 Tryz.underlying45 Tryz.limbInfo rfl .i64 .i64 (nx + ny) (by omega) (by omega) V
    rw [toList_made] at h
    rw [hZ, hln, hlm]
    simpa [limbV] using h
  have HZ := Lib.hid hZ
  clear hZ
  go_wp2_with fail
  have hZb : Blk (W.alloc (.cells Z.toArray 26)) W.heap.size 26 ((List.replicate (l.length + m.length) 0).map limbV) := by
    rw [← HZ.out]; exact Blk.new _ _ _
  go_loopw [31] (fun i wr => ∃ (j : Nat) (O : List Nat), j ≤ nx ∧ i = .int .i64 (j : Int) ∧ Hid (MulOut l m j O) ∧ Hid (Blk wr W.heap.size 26 (O.map limbV)) ∧ Below W.heap.size W wr) (fun i _ => nx - (intOf i).toNat)
  case atStart => exact ⟨0, _, Nat.zero_le _, rfl, MulOut.start l m, hZb, (Below.refl _ _).alloc (Nat.le_refl _) _⟩
  case round =>
    obtain ⟨j, O, hj, rfl, HO, HB, hbel⟩ := hrel
    clear hmk hZb HZ
    by_cases hjn : j < nx
    · obtain ⟨b1, off1, rfl, hbw1⟩ := lb_addr hl1 (by omega)
      have hc1 := lb_cell (hl1.below hbel) j (by omega)
      have HR := Lib.hid HO.out.row
      go_wp2_with fail
      clear hc1
      go_loopw [9, 38] (fun c k wr => ∃ (k' cc : Nat) (O : List Nat), k' ≤ ny ∧ k = .int .i64 (k' : Int) ∧ c = .int .u64 (cc : Int) ∧ Hid (MulRow l m j k' O cc) ∧ Hid (Blk wr W.heap.size 26 (O.map limbV)) ∧ Below W.heap.size W wr) (fun _ k _ => ny - (intOf k).toNat)
      case atStart => exact ⟨0, 0, O, Nat.zero_le _, rfl, rfl, HR, HB, hbel⟩
      case round =>
        clear HO HB hbel HR O
        obtain ⟨k, c, O, hk, rfl, rfl, HR, HB, hbel⟩ := hrel
        have hOl := HR.out.1
        rw [hln, hlm] at hOl
        by_cases hkn : k < ny
        · obtain ⟨b2, off2, rfl, hbw2⟩ := lb_addr hl2 (by omega)
          have hc2 := lb_cell (hl2.below hbel) k (by omega)
          have ho := limb_cell HB.out (j + k) (by omega)
          have hf := HB.out.frozen (j + k) (by simp; omega)
          obtain ⟨hi, lo, h1, h2, h3, hmul⟩ := mul64n (digit l j) (digit m k) (digit_lt l A.out.1 j) (digit_lt m A.out.2.1 k)
          obtain ⟨s1, d1, h4, h5, h6, hadd1⟩ := add64_0 lo (digit O (j + k)) h2 (digit_lt O HR.out.2.1 _)
          obtain ⟨s2, d2, h7, h8, h9, hadd2⟩ := add64_0 s1 c h4 HR.out.2.2.1
          have hstep := HR.out.step (by omega) (by omega) A.out.1 A.out.2.1 hi lo d1 s1 d2 s2 h3 h6 h9 h7
          have hbd := hstep.2.2.1
          have HS := Lib.hid hstep
          have HB2 := Lib.hid (HB.out.set_ (j + k) (.int .u64 (s2 : Int)))
          have hbel2 := hbel.setCell (p := ⟨W.heap.size, j + k, none⟩) (Nat.le_refl _) (.int .u64 (s2 : Int))
          clear hstep h3 h6 h9 hOl
          generalize digit l j = x1 at *
          generalize digit m k = x2 at *
          generalize digit O (j + k) = x3 at *
          go_wp2_with (go_at_call 107; refine (hmul _).mono ?_; rintro e w' ⟨rfl, rfl⟩)
          go_roundw
          case rel => exact ⟨k + 1, hi + d1 + d2, O.set (j + k) s2, by omega, by simp, by simp, HS, by rw [← map_limb_set]; exact HB2, hbel2⟩
          case measure => simp [intOf]; omega
        · obtain rfl : k = ny := by omega
          have hO := HR.out
          rw [← hlm] at hO
          have HF := Lib.hid (hO.fin (by omega))
          rw [hlm] at HF
          have hc := hO.2.2.1
          clear hO
          have hlen : j + k < O.length := by omega
          have ho := limb_cell HB.out (j + k) (by omega)
          have hf := HB.out.frozen (j + k) (by simp; omega)
          have HB2 := Lib.hid (HB.out.set_ (j + k) (.int .u64 (c : Int)))
          have hbel2 := hbel.setCell (p := ⟨W.heap.size, j + k, none⟩) (Nat.le_refl _) (.int .u64 (c : Int))
          clear hOl hlen
          go_wp2_with fail
          go_roundw
          case rel => exact ⟨j + 1, O.set (j + k) c, by omega, by simp, HF, by rw [← map_limb_set]; exact HB2, hbel2⟩
          case measure => simp [intOf]; omega
    · obtain rfl : j = nx := by omega
      have hO := HO.out
      rw [← hln] at hO
      have hfin := hO.fin
      have hOl := hO.1
      have hlt := hO.2.1
      clear hO
      rw [A.out.2.2.1, A.out.2.2.2.1] at hfin
      have hLb : Lb wr (.slice (some ⟨W.heap.size, 0, none⟩) (j + ny) (j + ny)) O := by
        refine ⟨_, _, _, rfl, by omega, Nat.le_refl _, by unfold maxLen; omega, by omega, hlt, fun _ => ⟨W.heap.size, 0, rfl, HB.out.lt, fun i x hi => ?_⟩⟩
        rw [Nat.zero_add, HB.out.cell, List.getElem?_map, hi]
        rfl
      go_wp2_with fail
      refine (told_lb _ O _ _ hLb hfin).mono ?_
      rintro e w' ⟨ht, hb⟩
      have hbE : Below w.heap.size w w' := (A.out.2.2.2.2.trans (hbel.mono A.out.2.2.2.2.size)).trans (hb.mono (Nat.le_trans A.out.2.2.2.2.size hbel.size))
      have hsz := Nat.le_trans A.out.2.2.2.2.size hbel.size
      rcases ht with ⟨hlt2, av, cv, rfl, hn⟩ | ⟨hge, rfl⟩
      · go_wp2_with fail
        go_ret2
        exact ⟨.inl ⟨hlt2, av, cv, rfl, hn.ge hsz⟩, hbE⟩
      · go_wp2_with fail
        go_ret2
        exact ⟨.inr ⟨hge, rfl⟩, hbE⟩
theorem mul_long (v u : Value) (x y : Nat) (w : World) (hv : Nm w v x) (hu : Nm w u y) (hL : Lim ≤ x ∨ Lim ≤ y) :
    Calls Tryz.prog 87 #[v, u] w fun e w' => e = .returned (.tuple #[.slice none 0 0, .int .i64 3]) ∧ Below w.heap.size w w' := by
  go_enter Tryz.func87, Tryz.ntmps87
  go_wp2_with fail
  refine (normal_any v x _ hv).mono ?_
  rintro e w1 ⟨a1, c1, rfl, hn1, hb1⟩
  go_wp2_with fail
  refine (normal_any u y _ (hu.below hb1)).mono ?_
  rintro e w2 ⟨a2, c2, rfl, hn2, hb2⟩
  have hn1' := hn1.below hb2
  go_wp2_with fail
  refine (long2_yes _ _ _ _ _ _ _ rfl hn1'.nm hn2.nm hL).mono ?_
  rintro e w3 ⟨rfl, hb3⟩
  have hb3' := ((Below.refl w2.heap.size w2).alloc (Nat.le_refl _) (.cells #[.slice a1 (nl x) c1, .slice a2 (nl y) c2] 45)).trans (hb3.mono (by simp))
  have hbW : Below w.heap.size w w3 := (hb1.trans (hb2.mono hb1.size)).trans (hb3'.mono (Nat.le_trans hb1.size hb2.size))
  go_wp2_with fail
  go_ret2
  exact ⟨rfl, hbW⟩
end Go.Proofs.YtpnllalefpkcjaaGreatDoor.Nat_
