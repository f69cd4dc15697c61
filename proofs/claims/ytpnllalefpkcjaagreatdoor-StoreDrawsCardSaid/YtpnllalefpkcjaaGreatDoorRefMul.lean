/-
Contract of the reference's product.
-/
import Derived.Test.YtpnllalefpkcjaaGreatDoorRefShift
namespace Go.Proofs.YtpnllalefpkcjaaGreatDoor.Nat_
open Go.RowKit

theorem vd_set : ∀ (l : List Nat) (p v : Nat), p < l.length → vd (l.set p v) + 4294967296 ^ p * digit l p = vd l + 4294967296 ^ p * v
  | [], _, _, h => by simp at h
  | x :: l, 0, v, _ => by
    rw [List.set_cons_zero, vd, vd, Nat.pow_zero, Nat.one_mul, Nat.one_mul]
    show v + 4294967296 * vd l + x = _
    omega
  | x :: l, p + 1, v, h => by
    have ih := vd_set l p v (by simpa using h)
    have hd : digit (x :: l) (p + 1) = digit l p := by simp [digit]
    rw [List.set_cons_succ, vd, vd, hd, Nat.pow_succ']
    rw [Nat.mul_assoc, Nat.mul_assoc]
    have := congrArg (fun t => 4294967296 * t) ih
    simp only [Nat.mul_add] at this
    omega
theorem digit_small (l : List Nat) (h : ∀ x ∈ l, x < 4294967296) (p : Nat) : digit l p < 4294967296 := by
  unfold digit
  cases hx : l[p]? with
  | none => decide
  | some x => exact h x (List.mem_of_getElem? hx)
/-- What the inner loop of the product has. -/
def MulD (x y Z i k c : Nat) (O : List Nat) : Prop := O.length = Z ∧ c < 4294967296 ∧ (∀ d ∈ O, d < 4294967296) ∧ vd O + 4294967296 ^ (i + k) * c = (x % 4294967296 ^ i) * y + 4294967296 ^ i * (dgt x i * (y % 4294967296 ^ k))
/-- What the outer one has. -/
def MulE (x y Z i : Nat) (O : List Nat) : Prop := O.length = Z ∧ (∀ d ∈ O, d < 4294967296) ∧ vd O = (x % 4294967296 ^ i) * y
theorem MulE.start (x y Z : Nat) : MulE x y Z 0 (List.replicate Z 0) := ⟨by simp, by simp, by rw [vd_zeros]; simp [Nat.mod_one]⟩
theorem MulE.row {x y Z i : Nat} {O : List Nat} (h : MulE x y Z i O) : MulD x y Z i 0 0 O := ⟨h.1, by decide, h.2.1, by rw [h.2.2]; simp [Nat.mod_one]⟩
theorem mul_alg (V V' P o t q s a B T dx dy c : Nat) (h1 : V' + P * o = V + P * t) (h2 : V + P * c = T + a) (hs : s = o + dx * dy + c) (hd : 4294967296 * q + t = s) (hB : B = a + P * (dx * dy)) : V' + P * 4294967296 * q = T + B := by
  have e : P * t + P * 4294967296 * q = P * s := by rw [Nat.mul_assoc, ← Nat.mul_add]; congr 1; omega
  have e2 : P * s = P * o + P * (dx * dy) + P * c := by rw [hs, Nat.mul_add, Nat.mul_add]
  omega
theorem MulD.step {x y Z i k c s : Nat} {O : List Nat} (h : MulD x y Z i k c O) (hp : i + k < Z) (hs : s = digit O (i + k) + dgt x i * dgt y k + c) (hq : s / 4294967296 < 4294967296) :
    MulD x y Z i (k + 1) (s / 4294967296) (O.set (i + k) (s % 4294967296)) := by
  obtain ⟨h1, h2, h3, h4⟩ := h
  have hset := vd_set O (i + k) (s % 4294967296) (by omega)
  refine ⟨by rw [List.length_set, h1], hq, ?_, ?_⟩
  · intro d hd
    rcases List.mem_or_eq_of_mem_set hd with hd | hd
    · exact h3 d hd
    · rw [hd]; exact Nat.mod_lt _ (by decide)
  · rw [← Nat.add_assoc, Nat.pow_succ, mod_succ y k]
    refine mul_alg (vd O) _ (4294967296 ^ (i + k)) _ _ _ s _ _ _ (dgt x i) (dgt y k) c hset h4 hs (Nat.div_add_mod s 4294967296) ?_
    rw [Nat.mul_add, Nat.mul_add, Nat.pow_add]
    congr 1
    rw [Nat.mul_assoc (4294967296 ^ i)]
    congr 1
    rw [Nat.mul_left_comm]
theorem MulD.fin {x y Z i m c : Nat} {O : List Nat} (h : MulD x y Z i (m + 1) c O) (hy : y < 4294967296 ^ m) : MulE x y Z (i + 1) O := by
  obtain ⟨h1, h2, h3, h4⟩ := h
  rw [mod_big y _ (lt_pow_mono hy (by omega)), ← Nat.mul_assoc, ← Nat.add_mul, ← mod_succ] at h4
  refine ⟨h1, h3, ?_⟩
  have hlt : (x % 4294967296 ^ (i + 1)) * y < 4294967296 ^ (i + (m + 1)) := by
    have hx := mod_lt_pow x (i + 1)
    have e : 4294967296 ^ (i + (m + 1)) = 4294967296 ^ (i + 1) * 4294967296 ^ m := by
      rw [← Nat.pow_add, show i + (m + 1) = i + 1 + m by omega]
    rw [e]
    exact Nat.mul_lt_mul_of_le_of_lt (Nat.le_of_lt hx) hy (dpos _)
  have hc : c = 0 := by
    rcases Nat.eq_zero_or_pos c with h0 | h0
    · exact h0
    · have := Nat.le_mul_of_pos_right (4294967296 ^ (i + (m + 1))) h0
      omega
  rw [hc, Nat.mul_zero, Nat.add_zero] at h4
  exact h4
theorem MulE.fin {x y Z m : Nat} {O : List Nat} (h : MulE x y Z m O) (hx : x < 4294967296 ^ m) : vd O = x * y := by
  rw [h.2.2, mod_big x _ hx]
theorem MulD.next {x y Z i k c : Nat} {O : List Nat} (h : MulD x y Z i k c O) (hp : i + k < Z) : ∃ m u s t q : Nat, (dgt x i : Int) * (dgt y k : Int) = (m : Int) ∧ (m : Int) < 18446744073709551616 ∧ (digit O (i + k) : Int) + (m : Int) = (u : Int) ∧ (u : Int) < 18446744073709551616 ∧ (u : Int) + (c : Int) = (s : Int) ∧ (s : Int) < 18446744073709551616 ∧
    (s : Int) % 4294967296 = (t : Int) ∧ (s : Int) / 4294967296 = (q : Int) ∧ MulD x y Z i (k + 1) q (O.set (i + k) t) := by
  have h1 := dgt_lt x i
  have h2 := dgt_lt y k
  have h3 := digit_small O h.2.2.1 (i + k)
  have h4 := h.2.1
  have hm : dgt x i * dgt y k ≤ 4294967295 * 4294967295 := Nat.mul_le_mul (by omega) (by omega)
  have hst := fun hq => h.step hp rfl hq
  generalize digit O (i + k) = o at *
  obtain ⟨m, hm'⟩ : ∃ m, dgt x i * dgt y k = m := ⟨_, rfl⟩
  have hmI : (dgt x i : Int) * (dgt y k : Int) = (m : Int) := by rw [← hm', Int.natCast_mul]
  rw [hm'] at hm hst
  exact ⟨m, o + m, o + m + c, (o + m + c) % 4294967296, (o + m + c) / 4294967296, hmI, by omega, by omega, by omega, by omega, by omega, by omega, by omega, hst (by omega)⟩
theorem below_drewQ {B : Nat} {a w : World} (h : Below B a w) (n : Nat) : Below B a (w.drewN n) := ⟨h.os, h.tape, h.output, h.size, h.block⟩
theorem rdigit_q (v : Value) (n i : Nat) (w : World) (h : Nm w v n) (hi : i ≤ 100000000) :
    Calls Tryz.prog 100 #[v, .int .i64 (i : Int)] w fun e w' => e = .returned (.int .u64 (dgt n i : Int)) ∧ w' = w := rdigit_any v n i w h hi
theorem nm_drewN {w : World} {v : Value} {n : Nat} (h : Nm w v n) (k : Nat) : Nm (w.drewN k) v n := h
set_option maxRecDepth 100000 in
set_option maxHeartbeats 1000000 in
theorem rmul_any (v u : Value) (x y : Nat) (w : World) (hv : Nm w v x) (hu : Nm w u y) (hnl : nl (x * y) ≤ 1000000) (hlen : ∀ a len cap a' len' cap', v = .slice a len cap → u = .slice a' len' cap' → len + len' ≤ 1900000) :
    Calls Tryz.prog 101 #[v, u] w (RNat w (x * y)) := by
  have hd := fun w' (hb : Below w.heap.size w w') k i hi => rdigit_any v x i (World.drewN w' k) (nm_drewN (hv.below hb) k) hi
  have hd' := fun w' (hb : Below w.heap.size w w') k i hi => rdigit_any u y i (World.drewN w' k) (nm_drewN (hu.below hb) k) hi
  obtain ⟨l, hl, hlx, hls⟩ := hv
  obtain ⟨m, hm, hmy, hms⟩ := hu
  have hxs := val_small l hl.lt
  have hys := val_small m hm.lt
  rw [hlx] at hxs
  rw [hmy] at hys
  obtain ⟨a, la, cap, rfl, h1, h2, h3, -, -, -⟩ := hl
  obtain ⟨a', lb, cap', rfl, h1', h2', h3', -, -, -⟩ := hm
  unfold maxLen at h3 h3'
  have hlens := hlen _ _ _ _ _ _ rfl rfl
  rw [h1] at hxs
  rw [h1'] at hys
  obtain ⟨N, hNN⟩ : ∃ N, 2 * la + 2 * lb + 1 = N := ⟨_, rfl⟩
  have hNI : 2 * (la : Int) + 2 * (lb : Int) + 1 = (N : Int) := by omega
  obtain ⟨Z, hZ⟩ : ∃ Z : List Value, Z = (List.replicate N 0).map limbV := ⟨_, rfl⟩
  have hmk : ∀ V : World, (Instr.makeSlice 44 (.int .i64 (N : Int)) (.int .i64 (N : Int))).run Tryz.prog V = .ok (.slice (some ⟨V.heap.size, 0, none⟩) N N) (V.alloc (.cells Z.toArray 26)) := by
    intro V
    have h := run_make_row' (P := Tryz.prog) 44 26 _ 8 Tryz.underlying44 Tryz.limbInfo rfl .i64 .i64 N (by omega) (by omega) V
    rw [toList_made] at h
    rw [hZ]
    simpa [limbV] using h
  have hZb : Blk (w.alloc (.cells Z.toArray 26)) w.heap.size 26 ((List.replicate N 0).map limbV) := by
    rw [← hZ]; exact Blk.new _ _ _
  have HX := Lib.hid (And.intro hxs hys)
  have HD := Lib.hid (And.intro hd hd')
  have HN := Lib.hid hnl
  have HNN := Lib.hid hNN
  have hN3 : N ≤ 3900000 := by omega
  have hla : la ≤ 1000000 := by omega
  have hlb : lb ≤ 1000000 := by omega
  clear hd hd' hlx hls hmy hms hxs hys h1 h1' hnl hlen hZ hNN
  obtain ⟨G, hG⟩ : ∃ G, w.heap.size = G := ⟨_, rfl⟩
  have HG := Lib.hid hG
  rw [hG] at hZb
  go_enter Tryz.func101, Tryz.ntmps101
  go_wp2_with fail
  clear hmk hNI
  go_loopw [6] (fun i wr => ∃ (j : Nat) (O : List Nat), j ≤ 2 * la ∧ i = .int .i64 (j : Int) ∧ Hid (MulE x y N j O) ∧ Hid (Blk wr G 26 (O.map limbV)) ∧ Hid (Below w.heap.size w wr)) (fun i _ => 2 * la - (intOf i).toNat)
  case atStart => exact ⟨0, _, Nat.zero_le _, by simp, Lib.hid (MulE.start x y N), Lib.hid hZb, Lib.hid ((Below.refl _ _).alloc (Nat.le_refl _) _)⟩
  case round =>
    clear hZb hG
    obtain ⟨j, O, hj, rfl, HO, HB, HBL⟩ := hrel
    by_cases hjn : j < 2 * la
    · have HR := Lib.hid HO.out.row
      have hjI : (j : Int) < 2 * (la : Int) := by omega
      go_wp2_with fail
      go_loopw [7, 8] (fun cv kv wr => ∃ (k c : Nat) (O : List Nat), k ≤ 2 * lb + 1 ∧ kv = .int .i64 (k : Int) ∧ cv = .int .u64 (c : Int) ∧ Hid (MulD x y N j k c O) ∧ Hid (Blk wr G 26 (O.map limbV)) ∧ Hid (Below w.heap.size w wr)) (fun _ kv _ => 2 * lb + 1 - (intOf kv).toNat)
      case atStart => exact ⟨0, 0, O, Nat.zero_le _, rfl, rfl, HR, HB, HBL⟩
      case round =>
        clear HO HB HBL HR O
        obtain ⟨k, c, O, hk, rfl, rfl, HR, HB, HBL⟩ := hrel
        by_cases hkn : k < 2 * lb + 1
        · have hkI : (k : Int) < 2 * (lb : Int) + 1 := by omega
          have hp : j + k < N := by have := HNN.out; omega
          have hOl := HR.out.1
          obtain ⟨m, u, s, t, q, hm, hm64, hu, hu64, hs, hs64, ht, hq, hst⟩ := HR.out.next hp
          have ho := limb_cell HB.out (j + k) (by omega)
          have hf := HB.out.frozen (j + k) (by rw [List.length_map]; omega)
          have c1 := fun n => HD.out.1 wr HBL.out n j (by omega)
          have c2 := fun n => HD.out.2 wr HBL.out n k (by omega)
          have hdx := dgt_lt x j
          have hdy := dgt_lt y k
          generalize dgt x j = dx at *
          generalize dgt y k = dy at *
          generalize digit O (j + k) = o at *
          obtain ⟨i, hi⟩ : ∃ i, j + k = i := ⟨_, rfl⟩
          rw [hi] at hp ho hf hst
          have hiI : (j : Int) + (k : Int) = (i : Int) := by omega
          have hiw : IntKind.i64.wrap ((j : Int) + (k : Int)) = (i : Int) := by rw [hiI]; exact IntWalk.i64_in _ (by omega)
          have hi3 : i ≤ 3900000 := by omega
          have hmw : IntKind.u64.wrap ((dx : Int) * (dy : Int)) = (m : Int) := by rw [hm, IntKind.wrap_u64]; omega
          have huw : IntKind.u64.wrap ((o : Int) + (m : Int)) = (u : Int) := by rw [hu, IntKind.wrap_u64]; omega
          have hsw : IntKind.u64.wrap ((u : Int) + (c : Int)) = (s : Int) := by rw [hs, IntKind.wrap_u64]; omega
          have C1 := Lib.hid c1
          have C2 := Lib.hid c2
          have HST := Lib.hid hst
          have HB2 := HB.out.set_ i (.int .u64 (t : Int))
          rw [map_limb_set] at HB2
          have HBn := fun n => Lib.hid (show Blk ((World.drewN wr n).setCell ⟨G, i, none⟩ (.int .u64 (t : Int))) G 26 ((O.set i t).map limbV) from by
            have := (HB.out.drewN n).set_ i (.int .u64 (t : Int))
            rw [map_limb_set] at this
            exact this)
          have HBLn := fun n => Lib.hid ((below_drewQ HBL.out n).setCell (p := ⟨G, i, none⟩) (by show w.heap.size ≤ G; rw [HG.out]; exact Nat.le_refl _) (.int .u64 (t : Int)))
          have hbl := HB.out.lt
          have hf2 : ∀ n, (World.drewN wr n).frozen? ⟨G, i, none⟩ = false := fun n => (HB.out.drewN n).frozen i (by rw [List.length_map]; omega)
          clear c1 c2 hst hi hm hu hs hOl HB2 hf
          go_wp2_with fail
          go_quiet (first
            | (go_at_call 100; (with_reducible exact Calls.quiet_of_same (C1.out _)))
            | (go_at_call 100; (with_reducible exact Calls.quiet_of_same (C2.out _))))
          go_wp2_with fail
          go_roundw
          first
            | exact ⟨⟨k + 1, q, O.set i t, by omega, by go_num, rfl, HST, HBn _, HBLn _⟩, by simp [intOf]; omega⟩
            | (case rel => exact ⟨k + 1, q, O.set i t, by omega, by go_num, rfl, HST, HBn _, HBLn _⟩
               case measure => simp [intOf]; omega)
        · obtain rfl : k = 2 * lb + 1 := by omega
          have HF := Lib.hid (HR.out.fin HX.out.2)
          have hkI : 2 * (lb : Int) + 1 ≤ ((2 * lb + 1 : Nat) : Int) := by omega
          go_wp2_with fail
          go_roundw
          first
            | exact ⟨⟨j + 1, O, by omega, by go_num, HF, HB, HBL⟩, by simp [intOf]; omega⟩
            | (case rel => exact ⟨j + 1, O, by omega, by go_num, HF, HB, HBL⟩
               case measure => simp [intOf]; omega)
    · obtain rfl : j = 2 * la := by omega
      have hfin := HO.out.fin HX.out.1
      have hOl := HO.out.1
      have hLb : Lb wr (.slice (some ⟨G, 0, none⟩) N N) O := by
        refine ⟨_, _, _, rfl, hOl, Nat.le_refl _, by unfold maxLen; omega, by omega, fun x hx => by have := HO.out.2.1 x hx; omega, fun _ => ⟨G, 0, rfl, HB.out.lt, fun i x hi => ?_⟩⟩
        rw [Nat.zero_add, HB.out.cell, List.getElem?_map, hi]
        rfl
      have c3 := rmade_lb _ O wr hLb HO.out.2.1 (by omega) (by rw [hfin]; exact HN.out)
      rw [hfin] at c3
      have C3 := Lib.hid c3
      have hjI : 2 * (la : Int) ≤ ((2 * la : Nat) : Int) := by omega
      clear c3 hfin hLb hOl
      go_wp2_with fail
      refine C3.out.mono ?_
      rintro e w' ⟨a3, c3, rfl, hn3, hb3⟩
      go_wp2_with fail
      go_ret
      exact ⟨a3, c3, rfl, hn3.ge HBL.out.size, HBL.out.trans (hb3.mono HBL.out.size)⟩
end Go.Proofs.YtpnllalefpkcjaaGreatDoor.Nat_
