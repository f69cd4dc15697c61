/-
Contracts of the reference's sums, differences and shifts.
-/
import Derived.Test.YtpnllalefpkcjaaGreatDoorRefMade
namespace Go.Proofs.YtpnllalefpkcjaaGreatDoor.Nat_
open Go.RowKit

/-- append of one digit to a row of the call's own. -/
theorem app1_ow {ops : Array Oper} {rest : List Oper} {o : Oper} {a : Act} {Q : Exit → Act → World → Prop} (W : World) (hg : o.guard = none) (s x : Operand)
    (hop : o.op = Op.call { callee := Callee.builtin Builtin.append, args := #[s, x], argTypes := #[44, 44] }) (B : Nat) (v : Value) (r : List Nat) (u : Nat) (hu : u < 18446744073709551616) (hs : a.eval s = v)
    (hown : Ow B W v r) (hx : a.eval x = .slice (some ⟨W.heap.size, 0, none⟩) 1 1) (hr : r.length ≤ 3900002) (hb : B ≤ W.heap.size)
    (hK : ∀ a' c' w', Ow B w' (.slice a' (r.length + 1) c') (r ++ [u]) → Below B W w' → wpList Tryz.prog ops Q rest (a.put o.dst (.slice a' (r.length + 1) c')) w') :
    wpList Tryz.prog ops Q (o :: rest) a (W.alloc (.cells #[.int .u64 (u : Int)] 26)) := by
  refine wpList_append_own1 hg s x _ hop B 26 _ 8 Tryz.underlying44 Tryz.limbInfo2 rfl v r.length (r.map limbV) hs W (.int .u64 (u : Int)) rfl hown.1 hx rfl (by unfold maxLen; omega) (by omega) hb ?_
  intro v' w' h1 h2
  have h3 : Ow B w' v' (r ++ [u]) := ⟨by rw [List.length_append, List.length_singleton, List.map_append]; exact h1, by rw [List.length_append, List.length_singleton]; omega, fun y hy => by
    rcases List.mem_append.1 hy with hy | hy
    · exact hown.2.2 y hy
    · obtain rfl : y = u := by simpa using hy
      exact hu⟩
  obtain ⟨b, c', rfl⟩ := h3.slice
  rw [List.length_append, List.length_singleton] at h3 ⊢
  exact hK b c' w' h3 h2
theorem mod_lt_pow (x i : Nat) : x % 4294967296 ^ i < 4294967296 ^ i := Nat.mod_lt _ (dpos i)
/-- What the sum's loop has: the digits, the carry. -/
def SumD (x y j c : Nat) (r : List Nat) : Prop := r.length = j ∧ c ≤ 1 ∧ (∀ d ∈ r, d < 4294967296) ∧ vd r + 4294967296 ^ j * c = x % 4294967296 ^ j + y % 4294967296 ^ j
theorem SumD.start (x y : Nat) : SumD x y 0 0 [] := ⟨rfl, by decide, by simp, by simp [vd, Nat.mod_one]⟩
theorem SumD.step {x y j c : Nat} {r : List Nat} (h : SumD x y j c r) : SumD x y (j + 1) ((dgt x j + dgt y j + c) / 4294967296) (r ++ [(dgt x j + dgt y j + c) % 4294967296]) := by
  obtain ⟨h1, h2, h3, h4⟩ := h
  have hx := dgt_lt x j
  have hy := dgt_lt y j
  refine ⟨by simp [h1], by omega, ?_, ?_⟩
  · intro d hd
    rcases List.mem_append.1 hd with hd | hd
    · exact h3 d hd
    · obtain rfl : d = _ := by simpa using hd
      exact Nat.mod_lt _ (by decide)
  · rw [vd_snoc, h1]
    exact add_dgt x y (vd r) j c _ h4 rfl
theorem SumD.fin {x y j c k : Nat} {r : List Nat} (h : SumD x y (j + 1) c r) (hx : x < 4294967296 ^ j) (hy : y < 4294967296 ^ j) (hk : k = x + y) : vd r = k := by
  obtain ⟨h1, h2, h3, h4⟩ := h
  have hv := vd_lt r h3
  rw [h1] at hv
  rw [mod_big x _ (lt_pow_mono hx (by omega)), mod_big y _ (lt_pow_mono hy (by omega))] at h4
  rw [Nat.pow_succ] at h4 hv
  have hp := dpos j
  generalize 4294967296 ^ j = P at *
  rcases Nat.eq_zero_or_pos c with h0 | h0
  · rw [h0] at h4; omega
  · obtain rfl : c = 1 := by omega
    omega
set_option maxRecDepth 100000 in
set_option maxHeartbeats 2000000 in
theorem radd_any (v u : Value) (x y : Nat) (w : World) (hv : Nm w v x) (hu : Nm w u y) (hnl : nl (x + y) ≤ 1000000) :
    Calls Tryz.prog 99 #[v, u] w (RNat w (x + y)) := by
  have hd := fun w' (hb : Below w.heap.size w w') i hi => rdigit_any v x i w' (hv.below hb) hi
  have hd' := fun w' (hb : Below w.heap.size w w') i hi => rdigit_any u y i w' (hu.below hb) hi
  obtain ⟨l, hl, hlx, hls⟩ := hv
  obtain ⟨m, hm, hmy, hms⟩ := hu
  have hxs := val_small l hl.lt
  have hys := val_small m hm.lt
  rw [hlx] at hxs
  rw [hmy] at hys
  obtain ⟨a, len, cap, rfl, h1, h2, h3, -, -, -⟩ := hl
  obtain ⟨a', len', cap', rfl, h1', h2', h3', -, -, -⟩ := hm
  unfold maxLen at h3 h3'
  obtain ⟨M, hM⟩ : ∃ M : Nat, max len len' = M := ⟨_, rfl⟩
  have hMI : max (len : Int) (len' : Int) = (M : Int) := by omega
  have hM1 : len ≤ M := by omega
  have hM2 : len' ≤ M := by omega
  have hM3 : M ≤ 1000000 := by omega
  have HX := Lib.hid (And.intro (lt_pow_mono hxs (show 2 * l.length ≤ 2 * M by omega)) (lt_pow_mono hys (show 2 * m.length ≤ 2 * M by omega)))
  have HD := Lib.hid (And.intro hd hd')
  have HN := Lib.hid hnl
  clear hd hd' hlx hls hmy hms hxs hys hM h1 h1' hnl
  go_enter Tryz.func99, Tryz.ntmps99
  go_wp2_with fail
  go_loopw [5, 6, 7] (fun o cv i wr => ∃ (j c : Nat) (r : List Nat), j ≤ 2 * M + 1 ∧ i = .int .i64 (j : Int) ∧ cv = .int .u64 (c : Int) ∧ Hid (SumD x y j c r) ∧ Hid (Ow w.heap.size wr o r) ∧ Hid (Below w.heap.size w wr)) (fun _ _ i _ => 2 * M + 1 - (intOf i).toNat)
  case atStart => exact ⟨0, 0, [], by omega, rfl, rfl, Lib.hid (SumD.start x y), Lib.hid (Ow.nil _ _), Lib.hid (Below.refl _ _)⟩
  case round =>
    obtain ⟨j, c, r, hj, rfl, rfl, HS, HO, HB⟩ := hrel
    obtain ⟨oa, oc, rfl⟩ := HO.out.slice
    have HJ := Lib.hid HS.out.1
    have hjr : r.length ≤ 2000001 := by have := HJ.out; omega
    by_cases hlt : j ≤ 2 * M
    · have c1 := HD.out.1 wr HB.out j (by omega)
      have c2 := HD.out.2 wr HB.out j (by omega)
      have hst := HS.out.step
      have hc := HS.out.2.1
      have hxl := dgt_lt x j
      have hyl := dgt_lt y j
      generalize dgt x j = dx at *
      generalize dgt y j = dy at *
      have C1 := Lib.hid c1
      have C2 := Lib.hid c2
      have HST := Lib.hid hst
      have hltI : (j : Int) ≤ 2 * (M : Int) := by omega
      have hsz := HB.out.size
      clear c1 c2 hst
      have hs1 : IntKind.u64.wrap ((dx : Int) + (dy : Int) + (c : Int)) = (((dx + dy + c : Nat) : Nat) : Int) := by rw [IntKind.wrap_u64]; omega
      have hs64 : dx + dy + c < 18446744073709551616 := by omega
      have hsN : ((dx : Int) + (dy : Int) + (c : Int)) = ((dx + dy + c : Nat) : Int) := by omega
      obtain ⟨s, hs⟩ : ∃ s, dx + dy + c = s := ⟨_, rfl⟩
      rw [hs] at HST hs1 hs64 hsN
      obtain ⟨t, ht⟩ : ∃ t, s % 4294967296 = t := ⟨_, rfl⟩
      obtain ⟨q, hq⟩ : ∃ q, s / 4294967296 = q := ⟨_, rfl⟩
      rw [ht, hq] at HST
      have htI : (s : Int) % 4294967296 = (t : Int) := by omega
      have hqI : (s : Int) / 4294967296 = (q : Int) := by omega
      have ht64 : t < 18446744073709551616 := by omega
      clear hs ht hq
      go_wp2_with fail
      refine C1.out.mono ?_
      rintro e w1 ⟨rfl, rfl⟩
      go_wp2_with fail
      refine C2.out.mono ?_
      rintro e w1 ⟨rfl, rfl⟩
      go_wp2_with (at_builtin; refine app1_ow _ rfl _ _ rfl w.heap.size (.slice oa r.length oc) r t ht64 rfl HO.out rfl (by omega) hsz ?_; intro a2 c2 w2 ho2 hb2; have HO2 := Lib.hid ho2; have HB2 := Lib.hid (HB.out.trans hb2); clear ho2)
      go_roundw
      first
        | exact ⟨⟨j + 1, q, r ++ [t], by omega, by go_num, rfl, HST, HO2, HB2⟩, by simp [intOf]; omega⟩
        | (case rel => exact ⟨j + 1, q, r ++ [t], by omega, by go_num, rfl, HST, HO2, HB2⟩
           case measure => simp [intOf]; omega)
    · obtain rfl : j = 2 * M + 1 := by omega
      have hfin := HS.out.fin HX.out.1 HX.out.2 rfl
      have c3 := rmade_lb _ r wr HO.out.lb HS.out.2.2.1 (by omega) (by rw [hfin]; exact HN.out)
      rw [hfin] at c3
      have C3 := Lib.hid c3
      have hltI : 2 * (M : Int) < ((2 * M + 1 : Nat) : Int) := by omega
      clear c3 hfin
      go_wp2_with fail
      refine C3.out.mono ?_
      rintro e w' ⟨a3, c3, rfl, hn3, hb3⟩
      go_wp2_with fail
      go_ret
      exact ⟨a3, c3, rfl, hn3.ge HB.out.size, HB.out.trans (hb3.mono HB.out.size)⟩
theorem nl_le {m n : Nat} (h : m ≤ n) : nl m ≤ nl n := by
  unfold nl
  exact (limbs_len _ m).2 (Nat.lt_of_le_of_lt h ((limbs_len _ n).1 (Nat.le_refl _)))
theorem nl_val (l : List Nat) (h : ∀ x ∈ l, x < 18446744073709551616) : nl (val l) ≤ l.length := by
  unfold nl
  rw [← trim_limbs l h]
  exact trim_le l
theorem sub_last (a q x p : Nat) (h : a + p * q = x + p) (hq : q ≤ 1) : a = x + p * (1 - q) := by
  rcases Nat.eq_zero_or_pos q with h0 | h0
  · subst h0
    rw [Nat.mul_zero, Nat.add_zero] at h
    rw [Nat.sub_zero, Nat.mul_one]
    exact h
  · obtain rfl : q = 1 := by omega
    rw [Nat.mul_one] at h
    rw [Nat.sub_self, Nat.mul_zero]
    omega
def SubD (x y j c : Nat) (r : List Nat) : Prop := r.length = j ∧ c ≤ 1 ∧ (∀ d ∈ r, d < 4294967296) ∧ vd r + y % 4294967296 ^ j = x % 4294967296 ^ j + 4294967296 ^ j * c
theorem SubD.start (x y : Nat) : SubD x y 0 0 [] := ⟨rfl, by decide, by simp, by simp [vd, Nat.mod_one]⟩
theorem SubD.step {x y j c d : Nat} {r : List Nat} (h : SubD x y j c r) (hd : d + dgt y j + c = 4294967296 + dgt x j) : SubD x y (j + 1) (1 - d / 4294967296) (r ++ [d % 4294967296]) := by
  obtain ⟨h1, h2, h3, h4⟩ := h
  obtain ⟨h5, h6⟩ := sub_dgt x y (vd r) j c d h4 hd
  refine ⟨by simp [h1], by omega, ?_, ?_⟩
  · intro d hd
    rcases List.mem_append.1 hd with hd | hd
    · exact h3 d hd
    · obtain rfl : d = _ := by simpa using hd
      exact Nat.mod_lt _ (by decide)
  · rw [vd_snoc, h1]
    exact sub_last _ _ _ _ h5 h6
theorem SubD.next {x y j c : Nat} {r : List Nat} (h : SubD x y j c r) : ∃ s t q q' : Nat, (4294967296 : Int) + (dgt x j : Int) - (dgt y j : Int) - (c : Int) = (s : Int) ∧ (s : Int) < 8589934592 ∧ (s : Int) % 4294967296 = (t : Int) ∧ (s : Int) / 4294967296 = (q : Int) ∧ (1 : Int) - (q : Int) = (q' : Int) ∧
    (t : Int) < 4294967296 ∧ q ≤ 1 ∧ SubD x y (j + 1) q' (r ++ [t]) := by
  have hc := h.2.1
  have hx := dgt_lt x j
  have hy := dgt_lt y j
  obtain ⟨s, hs⟩ : ∃ s, s + dgt y j + c = 4294967296 + dgt x j := ⟨4294967296 - dgt y j - c + dgt x j, by omega⟩
  have hst := h.step hs
  generalize dgt x j = dx at *
  generalize dgt y j = dy at *
  refine ⟨s, s % 4294967296, s / 4294967296, 1 - s / 4294967296, ?_, ?_, ?_, ?_, ?_, ?_, ?_, hst⟩ <;> omega
theorem SubD.fin {x y j c : Nat} {r : List Nat} (h : SubD x y j c r) (hx : x < 4294967296 ^ j) (hy : y ≤ x) : vd r = x - y := by
  obtain ⟨h1, h2, h3, h4⟩ := h
  have hv := vd_lt r h3
  rw [h1] at hv
  rw [mod_big x _ hx, mod_big y _ (by omega)] at h4
  generalize 4294967296 ^ j = P at *
  rcases Nat.eq_zero_or_pos c with h0 | h0
  · rw [h0] at h4; omega
  · obtain rfl : c = 1 := by omega
    omega
set_option maxRecDepth 100000 in
set_option maxHeartbeats 2000000 in
theorem rsub_any (v u : Value) (x y : Nat) (w : World) (hv : Nm w v x) (hu : Nm w u y) (hxy : y ≤ x) :
    Calls Tryz.prog 103 #[v, u] w (RNat w (x - y)) := by
  have hd := fun w' (hb : Below w.heap.size w w') i hi => rdigit_any v x i w' (hv.below hb) hi
  have hd' := fun w' (hb : Below w.heap.size w w') i hi => rdigit_any u y i w' (hu.below hb) hi
  obtain ⟨l, hl, hlx, hls⟩ := hv
  obtain ⟨a', len', cap', hu', h2', h3', h4'⟩ := hu.slice
  subst hu'
  have hxs := val_small l hl.lt
  have hnx := nl_val l hl.lt
  rw [hlx] at hxs hnx
  have hnl : nl (x - y) ≤ 1000000 := by have := nl_le (show x - y ≤ x by omega); omega
  obtain ⟨a, len, cap, rfl, h1, h2, h3, -, -, -⟩ := hl
  unfold maxLen at h3 h3'
  rw [h1] at hxs
  have HX := Lib.hid hxs
  have HD := Lib.hid (And.intro hd hd')
  have HN := Lib.hid hnl
  have hl3 : len ≤ 1000000 := by omega
  clear hd hd' hlx hls hxs h1 hnl hu hnx
  go_enter Tryz.func103, Tryz.ntmps103
  go_wp2_with fail
  go_loopw [5, 6, 7] (fun o cv i wr => ∃ (j c : Nat) (r : List Nat), j ≤ 2 * len ∧ i = .int .i64 (j : Int) ∧ cv = .int .u64 (c : Int) ∧ Hid (SubD x y j c r) ∧ Hid (Ow w.heap.size wr o r) ∧ Hid (Below w.heap.size w wr)) (fun _ _ i _ => 2 * len - (intOf i).toNat)
  case atStart => exact ⟨0, 0, [], by omega, rfl, rfl, Lib.hid (SubD.start x y), Lib.hid (Ow.nil _ _), Lib.hid (Below.refl _ _)⟩
  case round =>
    obtain ⟨j, c, r, hj, rfl, rfl, HS, HO, HB⟩ := hrel
    obtain ⟨oa, oc, rfl⟩ := HO.out.slice
    have HJ := Lib.hid HS.out.1
    have hjr : r.length ≤ 2000001 := by have := HJ.out; omega
    by_cases hlt : j < 2 * len
    · have c1 := HD.out.1 wr HB.out j (by omega)
      have c2 := HD.out.2 wr HB.out j (by omega)
      obtain ⟨s, t, q, q', hsN, hs64, htI, hqI, hqI2, ht64, hq1, hst⟩ := HS.out.next
      have hc := HS.out.2.1
      have hxl := dgt_lt x j
      have hyl := dgt_lt y j
      generalize dgt x j = dx at *
      generalize dgt y j = dy at *
      have C1 := Lib.hid c1
      have C2 := Lib.hid c2
      have HST := Lib.hid hst
      have hltI : (j : Int) < 2 * (len : Int) := by omega
      have hsz := HB.out.size
      have ht65 : t < 18446744073709551616 := by omega
      clear c1 c2 hst
      go_wp2_with fail
      refine C1.out.mono ?_
      rintro e w1 ⟨rfl, rfl⟩
      go_wp2_with fail
      refine C2.out.mono ?_
      rintro e w1 ⟨rfl, rfl⟩
      go_wp2_with (at_builtin; refine app1_ow _ rfl _ _ rfl w.heap.size (.slice oa r.length oc) r t ht65 rfl HO.out rfl (by omega) hsz ?_; intro a2 c2 w2 ho2 hb2; have HO2 := Lib.hid ho2; have HB2 := Lib.hid (HB.out.trans hb2); clear ho2)
      go_roundw
      first
        | exact ⟨⟨j + 1, q', r ++ [t], by omega, by go_num, rfl, HST, HO2, HB2⟩, by simp [intOf]; omega⟩
        | (case rel => exact ⟨j + 1, q', r ++ [t], by omega, by go_num, rfl, HST, HO2, HB2⟩
           case measure => simp [intOf]; omega)
    · obtain rfl : j = 2 * len := by omega
      have hfin := HS.out.fin HX.out hxy
      have c3 := rmade_lb _ r wr HO.out.lb HS.out.2.2.1 (by omega) (by rw [hfin]; exact HN.out)
      rw [hfin] at c3
      have C3 := Lib.hid c3
      have hltI : 2 * (len : Int) ≤ ((2 * len : Nat) : Int) := by omega
      clear c3 hfin
      go_wp2_with fail
      refine C3.out.mono ?_
      rintro e w' ⟨a3, c3, rfl, hn3, hb3⟩
      go_wp2_with fail
      go_ret
      exact ⟨a3, c3, rfl, hn3.ge HB.out.size, HB.out.trans (hb3.mono HB.out.size)⟩
end Go.Proofs.YtpnllalefpkcjaaGreatDoor.Nat_
