/-
Contracts of the reference's natural numbers: Norm, digit, bit, Bits, Same.
-/
import Derived.Test.YtpnllalefpkcjaaGreatDoorNatB
import Derived.Test.YtpnllalefpkcjaaGreatDoorRefMath
import Derived.Test.YtpnllalefpkcjaaGreatDoorZint
import Derived.Deep.QuietTactic
import Derived.BigQuiet
import Derived.RegionTactic
namespace Go.Proofs.YtpnllalefpkcjaaGreatDoor.Nat_
open Go.RowKit

theorem Tryz.limbInfo2 : (Tryz.prog.info? 26).map (fun i => (i.zero, i.size, i.bytes)) = some (some (.int .u64 0), 1, 8) := by kernel_rfl
theorem wpList_append_nil_nil {P : Program} {w : World} {ops : Array Oper} {rest : List Oper} {o : Oper} {a : Act} {Q : Exit → Act → World → Prop} (hgd : o.guard = none) (s x : Operand) (t : TypeId)
    (ho : o.op = .call { callee := .builtin .append, args := #[s, x], argTypes := #[t, t] }) (e : TypeId) (i : TypeInfo) (ht : P.underlying t = some (.slice e)) (hi : P.info? e = some i)
    (c : Nat) (hs : a.eval s = .slice none 0 0) (hx : a.eval x = .slice none 0 c) (h : wpList P ops Q rest (a.put o.dst (.slice none 0 0)) w) : wpList P ops Q (o :: rest) a w := by
  refine wpList_plain hgd fun K hK => ?_
  have hrun : (Builtin.append_ #[t, t] o.type #[.slice none 0 0, .slice none 0 c]).run P w = .ok (.slice none 0 0) w := by
    simp [Builtin.append_, run_underlying ht, sizeOf, typeInfo, hi, Builtin.lenOf, Builtin.firstCells]
  unfold Oper.wp
  simp [execOp, ho, resolve, invoke, builtin, hs, hx, hrun, Result.andThen]
  exact hK _ _ h
/-- append of a slice's limbs to nothing. -/
theorem app_nil {ops : Array Oper} {rest : List Oper} {o : Oper} {a : Act} {Q : Exit → Act → World → Prop} (W : World) (hg : o.guard = none) (s x : Operand)
    (hop : o.op = Op.call { callee := Callee.builtin Builtin.append, args := #[s, x], argTypes := #[45, 45] }) (hs : a.eval s = .slice none 0 0) (p : Option Addr) (k c : Nat) (l : List Nat)
    (hx : a.eval x = .slice p k c) (hl : Lb W (.slice p k c) l)
    (hK : ∀ b c' w', Ow W.heap.size w' (.slice b k c') l → Below W.heap.size W w' → wpList Tryz.prog ops Q rest (a.put o.dst (.slice b k c')) w') :
    wpList Tryz.prog ops Q (o :: rest) a W := by
  obtain ⟨i0, hi, hz0, hz1, hz2⟩ := info_parts Tryz.limbInfo2
  obtain ⟨p', k', c', he, h1, h2, h3, h0, h4, h5⟩ := hl
  obtain ⟨rfl, rfl, rfl⟩ : p = p' ∧ k = k' ∧ c = c' := by simpa using he
  cases p with
  | none =>
    obtain rfl : k = 0 := by
      rcases Nat.eq_zero_or_pos k with h | h
      · exact h
      · obtain ⟨_, _, hx, _⟩ := h5 h
        cases hx
    obtain rfl : l = [] := List.length_eq_zero_iff.1 h1
    exact wpList_append_nil_nil hg s x _ hop _ i0 Tryz.underlying45 hi c hs hx (hK none 0 W (Ow.nil _ _) (Below.refl _ _))
  | some ad =>
    refine wpList_append_own W hg s x 45 hop W.heap.size 26 i0 (.int .u64 0) 1 8 Tryz.underlying45 hi hz0 hz1 hz2 rfl (by decide) _ 0 [] hs (World.ownsRow_nil _ _ _ _) ad k c (l.map limbV) hx (by simp [h1]) ?_ (limbV_one l) (by unfold maxLen; omega) (by omega) (Nat.le_refl _) ?_
    · intro j u hj
      obtain ⟨hjl, -⟩ := List.getElem?_eq_some_iff.1 hj
      rw [List.length_map] at hjl
      obtain ⟨b, off, hp, hbw, hc⟩ := h5 (by omega)
      obtain rfl := Option.some.inj hp
      rw [List.getElem?_map, List.getElem?_eq_getElem hjl, Option.map_some] at hj
      have hj := Option.some.inj hj
      rw [Addr.add_lit, ← hj]
      exact hc j _ (List.getElem?_eq_getElem hjl)
    · intro v' w1 hown hgrow _
      rw [Nat.zero_add, List.nil_append] at hown
      have ho : Ow W.heap.size w1 v' l := ⟨by rw [h1]; exact hown, by omega, h4⟩
      obtain ⟨b, c', rfl⟩ := ho.slice
      rw [h1] at ho ⊢
      exact hK b c' w1 ho (Below.grown (Below.refl _ _) hgrow (Nat.le_refl _) (by intro k hk; simp [Value.ownBlock] at hk))

set_option maxHeartbeats 1000000 in
theorem rnorm_lb (v : Value) (l : List Nat) (w : World) (h : Lb w v l) :
    Calls Tryz.prog 45 #[v] w fun e w' => ∃ a c, e = .returned (.slice a (nl (val l)) c) ∧ Ow w.heap.size w' (.slice a (nl (val l)) c) (limbs (val l)) ∧ Below w.heap.size w w' := by
  have h' := h
  obtain ⟨a, len, cap, rfl, h1, h2, h3, h0, h4, h5⟩ := h
  unfold maxLen at h3
  have ht := trim_limbs l h4
  have A : Go.Aside (∀ x ∈ l, x < 18446744073709551616) := h4
  clear h4
  go_enter Tryz.func45, Tryz.ntmps45
  go_wp2_with fail
  go_loop [3] (fun i => ∃ j : Nat, j ≤ len ∧ i = .int .i64 (j : Int) ∧ Hid (trim (l.take j) = limbs (val l))) (fun i => (intOf i).toNat)
  case atStart => exact ⟨len, Nat.le_refl _, rfl, by show _ = _; rw [List.take_of_length_le (by omega), ht]⟩
  case round =>
    obtain ⟨j, hj, rfl, HT⟩ := hrel
    cases j with
    | zero =>
      have hT : limbs (val l) = [] := by rw [← HT.out]; rfl
      have HZ := Lib.hid ((limbs_nil _).1 hT)
      clear hT
      go_wp2_with (at_builtin; refine app_nil w rfl _ _ rfl rfl a 0 cap [] rfl ⟨a, 0, cap, rfl, rfl, Nat.zero_le _, by unfold maxLen; omega, by decide, by simp, fun h => absurd h (by decide)⟩ ?_; intro b c' w' ho hb)
      go_ret
      refine ⟨b, c', ?_, ?_, hb⟩
      · rw [HZ.out]; rfl
      · rw [HZ.out]; exact ho
    | succ k =>
      obtain ⟨b, off, ha, hbw, hc⟩ := h5 (by omega)
      subst ha
      have hk : k < l.length := by omega
      have hck := hc k _ (List.getElem?_eq_getElem hk)
      unfold limbV at hck
      by_cases hx : l[k] = 0
      · rw [hx] at hck
        go_wp2_with fail
        go_round
        case rel => exact ⟨k, by omega, by simp, by show _ = _; rw [← HT.out]; exact (trim_take l k hk (by rw [List.getElem?_eq_getElem hk, hx])).symm⟩
        case measure => simp [intOf]
      · have hs := trim_stop l k l[k] hk (List.getElem?_eq_getElem hk) hx
        have hle : k + 1 ≤ len := hj
        have hlen : (limbs (val l)).length = k + 1 := by
          rw [← HT.out, hs, List.length_take]; omega
        have hlt := A.out l[k] (List.getElem_mem hk)
        have htk := h'.take (k + 1) cap (by omega) (by omega) (by unfold maxLen; omega)
        have HTK := Lib.hid htk
        have HSS := Lib.hid (And.intro hs hlen)
        clear htk hs hlen
        generalize l[k] = x at *
        go_wp2_with (at_builtin; refine app_nil w rfl _ _ rfl rfl _ (k + 1) cap (l.take (k + 1)) rfl HTK.out ?_; intro b' c' w' ho hb)
        go_ret
        rw [← HSS.out.1, HT.out] at ho
        have e : nl (val l) = k + 1 := HSS.out.2
        rw [e]
        exact ⟨b', c', rfl, ho, hb⟩
theorem rnorm_any (v : Value) (n : Nat) (w : World) (h : Nm w v n) :
    Calls Tryz.prog 45 #[v] w fun e w' => ∃ a c, e = .returned (.slice a (nl n) c) ∧ NN w.heap.size w' (.slice a (nl n) c) n ∧ Below w.heap.size w w' := by
  obtain ⟨l, hl, rfl, hs⟩ := h
  refine (rnorm_lb v l w hl).mono ?_
  rintro e w' ⟨a, c, rfl, ho, hb⟩
  have := trim_limbs l hl.lt
  have h2 := trim_le l
  exact ⟨a, c, rfl, ⟨ho, by unfold nl; rw [← this]; omega⟩, hb⟩

set_option maxHeartbeats 1000000 in
theorem rdigit_any (v : Value) (n i : Nat) (w : World) (h : Nm w v n) (hi : i ≤ 100000000) :
    Calls Tryz.prog 100 #[v, .int .i64 (i : Int)] w fun e w' => e = .returned (.int .u64 (dgt n i : Int)) ∧ w' = w := by
  obtain ⟨l, hl, rfl, hs⟩ := h
  obtain ⟨a, len, cap, rfl, h1, h2, h3, h0, h4, h5⟩ := hl
  unfold maxLen at h3
  have he := dgt_even l h4 (i / 2)
  have ho := dgt_odd l h4 (i / 2)
  obtain ⟨j, hj⟩ : ∃ j, i / 2 = j := ⟨_, rfl⟩
  have q1 : (i : Int) / 2 = (j : Int) := by omega
  rw [hj] at he ho
  have hji : j ≤ i := by omega
  by_cases hlt : j < len
  · obtain ⟨b, off, rfl, hbw, hc⟩ := h5 (by omega)
    have hck := hc j _ (List.getElem?_eq_getElem (by omega))
    have hx : l.getD j 0 = l[j]'(by omega) := by rw [List.getD_eq_getElem?_getD, List.getElem?_eq_getElem (by omega)]; rfl
    have hx64 := h4 _ (List.getElem_mem (show j < l.length by omega))
    rw [hx] at he ho
    unfold limbV at hck
    have hd1 : decide (len ≤ j) = false := by simp; omega
    generalize l[j]'(by omega) = x at *
    by_cases hpar : i % 2 = 0
    · have hi2 : i = 2 * j := by omega
      have q2 : (i : Int) % 2 = 0 := by omega
      rw [← hi2] at he
      have e3 : (x : Int) % 4294967296 = ((x % 4294967296 : Nat) : Int) := by omega
      have HE := Lib.hid (he.trans rfl)
      have HD := Lib.hid e3
      clear he ho hi2 hx hc hj h4 h5 hs e3 hpar
      go_enter Tryz.func100, Tryz.ntmps100
      go_wp2_with fail
      go_ret
      exact ⟨ret_int (by rw [HE.out, HD.out]), rfl⟩
    · have hi2 : i = 2 * j + 1 := by omega
      have q2 : (i : Int) % 2 = 1 := by omega
      rw [← hi2] at ho
      have e3 : (x : Int) / 4294967296 = ((x / 4294967296 : Nat) : Int) := by omega
      have HE := Lib.hid (ho.trans rfl)
      have HD := Lib.hid e3
      clear he ho hi2 hx hc hj h4 h5 hs e3 hpar
      go_enter Tryz.func100, Tryz.ntmps100
      go_wp2_with fail
      go_ret
      exact ⟨ret_int (by rw [HE.out, HD.out]), rfl⟩
  · have hx : l.getD j 0 = 0 := by rw [List.getD_eq_getElem?_getD, List.getElem?_eq_none (by omega)]; rfl
    rw [hx] at he ho
    have hz : dgt (val l) i = 0 := by
      by_cases hpar : i % 2 = 0
      · have hi2 : i = 2 * j := by omega
        rw [hi2, he]
      · have hi2 : i = 2 * j + 1 := by omega
        rw [hi2, ho]
    have HE := Lib.hid hz
    have hd1 : decide (len ≤ j) = true := by simp; omega
    clear he ho hx hj h4 h5 hs hz
    go_enter Tryz.func100, Tryz.ntmps100
    go_wp2_with fail
    go_ret
    exact ⟨ret_int (by rw [HE.out]; rfl), rfl⟩

/-- A bit of a number. -/
def btN (n i : Nat) : Nat := n / 2 ^ i % 2
theorem bt_limb (l : List Nat) (h : ∀ x ∈ l, x < 18446744073709551616) (j k : Nat) (hk : k < 64) : btN (val l) (64 * j + k) = (l.getD j 0) / 2 ^ k % 2 := by
  unfold btN
  rw [Nat.pow_add, Nat.pow_mul, ← Nat.div_div_eq_div_mul, show (2 : Nat) ^ 64 = 18446744073709551616 by decide, val_div l j h]
  obtain ⟨e, he⟩ : ∃ e, 18446744073709551616 = 2 ^ k * (2 * e) := ⟨2 ^ (63 - k), by rw [← Nat.pow_succ', ← Nat.pow_add, show k + (63 - k + 1) = 64 by omega]⟩
  by_cases hj : j < l.length
  · rw [List.drop_eq_getElem_cons hj, val, List.getD_eq_getElem?_getD, List.getElem?_eq_getElem hj, Option.getD_some, he, Nat.mul_assoc, Nat.add_mul_div_left _ _ (Nat.pow_pos (by decide)), Nat.mul_assoc, Nat.add_mul_mod_self_left]
  · rw [List.drop_eq_nil_of_le (by omega), List.getD_eq_getElem?_getD, List.getElem?_eq_none (by omega)]
    rfl
theorem and1 (n : Int) (h0 : 0 ≤ n) (h1 : n < 18446744073709551616) : bits .and .u64 n 1 = n % 2 := mask_u64 1 n _ (by decide) (by decide) h0 h1
set_option maxHeartbeats 1000000 in
theorem rbit_any (v : Value) (n i : Nat) (w : World) (h : Nm w v n) (hi : i ≤ 1000000000) :
    Calls Tryz.prog 95 #[v, .int .i64 (i : Int)] w fun e w' => e = .returned (.int .u64 (btN n i : Int)) ∧ w' = w := by
  obtain ⟨l, hl, rfl, hs⟩ := h
  obtain ⟨a, len, cap, rfl, h1, h2, h3, h0, h4, h5⟩ := hl
  unfold maxLen at h3
  have hb := bt_limb l h4 (i / 64) (i % 64) (by omega)
  rw [show 64 * (i / 64) + i % 64 = i by omega] at hb
  obtain ⟨j, hj⟩ : ∃ j, i / 64 = j := ⟨_, rfl⟩
  obtain ⟨k, hk⟩ : ∃ k, i % 64 = k := ⟨_, rfl⟩
  have q1 : (i : Int) / 64 = (j : Int) := by omega
  have q2 : (i : Int) % 64 = (k : Int) := by omega
  have hk64 : k < 64 := by omega
  rw [hj, hk] at hb
  have hji : j ≤ i := by omega
  by_cases hlt : j < len
  · obtain ⟨b, off, rfl, hbw, hc⟩ := h5 (by omega)
    have hck := hc j _ (List.getElem?_eq_getElem (by omega))
    have hx : l.getD j 0 = l[j]'(by omega) := by rw [List.getD_eq_getElem?_getD, List.getElem?_eq_getElem (by omega)]; rfl
    have hx64 := h4 _ (List.getElem_mem (show j < l.length by omega))
    rw [hx] at hb
    unfold limbV at hck
    have hd1 : decide (len ≤ j) = false := by simp; omega
    generalize l[j]'(by omega) = x at *
    have hxk : x / 2 ^ k ≤ x := Nat.div_le_self _ _
    have e3 : (x : Int) / 2 ^ k = ((x / 2 ^ k : Nat) : Int) := by rw [Int.natCast_ediv, Int.natCast_pow]; rfl
    obtain ⟨y, hy⟩ : ∃ y, x / 2 ^ k = y := ⟨_, rfl⟩
    rw [hy] at e3 hb hxk
    have e4 := and1 (y : Int) (by omega) (by omega)
    have HE := Lib.hid hb
    have HX := Lib.hid (And.intro hx64 hxk)
    clear hb hx hc hj hk h4 h5 hs hy hxk hx64
    go_enter Tryz.func95, Tryz.ntmps95
    go_wp2_with fail
    go_ret
    exact ⟨ret_int (by rw [HE.out]; omega), rfl⟩
  · have hx : l.getD j 0 = 0 := by rw [List.getD_eq_getElem?_getD, List.getElem?_eq_none (by omega)]; rfl
    rw [hx, Nat.zero_div] at hb
    have HE := Lib.hid hb
    have hd1 : decide (len ≤ j) = true := by simp; omega
    clear hb hx hj hk h4 h5 hs
    go_enter Tryz.func95, Tryz.ntmps95
    go_wp2_with fail
    go_ret
    exact ⟨ret_int (by rw [HE.out]; rfl), rfl⟩

theorem bt_top (n m : Nat) (h : n < 2 ^ (m + 1)) : (btN n m = 0 ∧ n < 2 ^ m) ∨ (btN n m = 1 ∧ 2 ^ m ≤ n) := by
  unfold btN
  rw [Nat.pow_succ] at h
  by_cases hlt : n < 2 ^ m
  · exact .inl ⟨by rw [Nat.div_eq_of_lt hlt], hlt⟩
  · refine .inr ⟨?_, by omega⟩
    have h1 : n / 2 ^ m = 1 := by
      have a := (Nat.le_div_iff_mul_le (Nat.pow_pos (n := m) (show 0 < 2 by decide))).2 (show 1 * 2 ^ m ≤ n by omega)
      have b := (Nat.div_lt_iff_lt_mul (Nat.pow_pos (n := m) (show 0 < 2 by decide))).2 (show n < 2 * 2 ^ m by omega)
      omega
    rw [h1]
set_option maxHeartbeats 1000000 in
theorem rbits_any (v : Value) (n : Nat) (w : World) (h : Nm w v n) :
    Calls Tryz.prog 82 #[v] w fun e w' => e = .returned (.int .i64 (nbits n : Int)) ∧ w' = w := by
  have hb := fun i hi => rbit_any v n i w h hi
  have HB := Lib.hid hb
  obtain ⟨l, hl, hv, hs⟩ := h
  have hlt := val_lt l hl.lt
  rw [hv] at hlt
  obtain ⟨a, len, cap, rfl, h1, h2, h3, h0, h4, h5⟩ := hl
  have hlt2 : n < 2 ^ (64 * len) := by rw [Nat.pow_mul, ← h1]; exact hlt
  unfold maxLen at h3
  have HL := Lib.hid hlt2
  clear hb hv hlt h4 h5 hlt2
  go_enter Tryz.func82, Tryz.ntmps82
  go_wp2_with fail
  go_loop [3] (fun i => ∃ m : Nat, m ≤ 64 * len ∧ i = .int .i64 (m : Int) ∧ Hid (n < 2 ^ m)) (fun i => (intOf i).toNat)
  case atStart => exact ⟨64 * len, Nat.le_refl _, by simp, HL⟩
  case round =>
    obtain ⟨m, hm, rfl, HN⟩ := hrel
    cases m with
    | zero =>
      have hz := Lib.hid (show nbits n = 0 from (nbits_zero n).2 (by have := HN.out; simpa using this))
      go_wp2_with fail
      go_ret
      exact ⟨ret_int (by rw [hz.out]; rfl), rfl⟩
    | succ k =>
      have hq : ((k + 1 : Nat) : Int) - 1 = (k : Int) := by omega
      rcases bt_top n k HN.out with ⟨hb0, hlo⟩ | ⟨hb1, hhi⟩
      · have c := HB.out k (by omega)
        rw [hb0] at c
        have C := Lib.hid c
        have HLO := Lib.hid hlo
        clear c hb0 hlo
        go_wp2_with fail
        refine C.out.mono ?_
        rintro e w' ⟨rfl, rfl⟩
        go_wp2_with fail
        go_round
        case rel => exact ⟨k, by omega, by simp, HLO⟩
        case measure => simp [intOf]
      · have c := HB.out k (by omega)
        rw [hb1] at c
        have C := Lib.hid c
        have hz := Lib.hid (nbits_uniq n k hhi HN.out)
        clear c hb1 hhi
        go_wp2_with fail
        refine C.out.mono ?_
        rintro e w' ⟨rfl, rfl⟩
        go_wp2_with fail
        go_ret
        exact ⟨ret_int (by rw [hz.out]; omega), rfl⟩
theorem lb_cells {w : World} {b off : Nat} {len cap : Nat} {l : List Nat} (h : Lb w (.slice (some ⟨b, off, none⟩) len cap) l) (i : Nat) (hi : i < l.length) : w.cell? ⟨b, off + i, none⟩ = some (.int .u64 (l[i] : Int)) := by
  obtain ⟨a', len', cap', he, h1, h2, h3, h0, h4, h5⟩ := h
  obtain ⟨hb, rfl, rfl⟩ : some (⟨b, off, none⟩ : Addr) = a' ∧ len = len' ∧ cap = cap' := by simpa using he
  obtain ⟨b', off', ha, -, hc⟩ := h5 (by omega)
  rw [← hb] at ha
  obtain ⟨rfl, rfl⟩ : b = b' ∧ off = off' := by simpa using ha
  exact hc i _ (List.getElem?_eq_getElem hi)
theorem lb_addr2 {w : World} {v : Value} {l : List Nat} (h : Lb w v l) (h0 : 0 < l.length) : ∃ b off cap, v = .slice (some ⟨b, off, none⟩) l.length cap ∧ l.length ≤ cap ∧ cap ≤ maxLen := by
  obtain ⟨a, len, cap, rfl, h1, h2, h3, -, -, h5⟩ := h
  obtain ⟨b, off, rfl, -, -⟩ := h5 (by omega)
  exact ⟨b, off, cap, by rw [h1], by omega, h3⟩
theorem limbs_top (n : Nat) (h : 0 < (limbs n).length) : ∃ x, (limbs n)[(limbs n).length - 1]? = some x ∧ x ≠ 0 ∧ x < 18446744073709551616 := by
  have hn : n ≠ 0 := fun h0 => by rw [h0] at h; simp [limbs_zero] at h
  have hlt := limbs_lt n
  obtain ⟨l, x, e, hx, -⟩ := limbs_last n hn
  rw [e] at hlt
  refine ⟨x, ?_, by omega, hlt x (by simp)⟩
  rw [e, List.length_append, List.length_singleton, List.getElem?_append_right (by omega)]
  simp
set_option maxHeartbeats 1000000 in
/-- Same, of what is the same. -/
theorem rsame_eq (v u : Value) (n : Nat) (w : World) (h : Lb w v (limbs n)) (h' : Lb w u (limbs n)) :
    Calls Tryz.prog 71 #[v, u] w fun e w' => e = .returned (.bool true) ∧ Below w.heap.size w w' := by
  by_cases h0 : (limbs n).length = 0
  · obtain ⟨a, len, cap, rfl, h1, h2, h3, -, -, -⟩ := h
    obtain ⟨a', len', cap', rfl, h1', h2', h3', -, -, -⟩ := h'
    rw [h0] at h1 h1'
    subst h1 h1'
    unfold maxLen at h3 h3'
    clear h0
    go_enter Tryz.func71, Tryz.ntmps71
    go_wp2_with fail
    go_loop [5] (fun i => i = .int .i64 0) (fun _ => 0)
    case atStart => rfl
    case round =>
      subst hrel
      go_wp2_with fail
      go_ret
      exact ⟨rfl, Below.refl _ _⟩
  · obtain ⟨b, off, cap, rfl, hc1, hc2⟩ := lb_addr2 h (by omega)
    obtain ⟨b', off', cap', rfl, hc1', hc2'⟩ := lb_addr2 h' (by omega)
    have hl := fun i hi => lb_cells h i hi
    have hl' := fun i hi => lb_cells h' i hi
    have hbw := fun w' (hb : Below w.heap.size w w') i (hi : i < (limbs n).length) => lb_cells (h.below hb) i hi
    have hbw' := fun w' (hb : Below w.heap.size w w') i (hi : i < (limbs n).length) => lb_cells (h'.below hb) i hi
    have htop := limbs_top n (by omega)
    have hsz := h.size
    generalize limbs n = l at *
    unfold maxLen at hc2 hc2'
    have H := Lib.hid (And.intro hbw hbw')
    have HT := Lib.hid htop
    clear hl hl' hbw hbw' htop h h'
    go_enter Tryz.func71, Tryz.ntmps71
    go_wp2_with fail
    go_loopw [5] (fun i wr => ∃ j : Nat, j ≤ l.length ∧ i = .int .i64 (j : Int) ∧ Hid (Below w.heap.size w wr)) (fun i _ => l.length - (intOf i).toNat)
    case atStart => exact ⟨0, Nat.zero_le _, rfl, Lib.hid (Below.refl _ _)⟩
    case round =>
      obtain ⟨j, hj, rfl, HB⟩ := hrel
      by_cases hlt : j < l.length
      · have dd : decide (j < l.length) = true := decide_eq_true hlt
        have x1 := H.out.1 wr HB.out j hlt
        have x2 := H.out.2 wr HB.out j hlt
        have HBD := Lib.hid HB.out.drew
        generalize l[j] = x at *
        go_wp2_with fail
        go_region
        go_wp2_with fail
        go_roundw
        first
          | exact ⟨⟨j + 1, by omega, by go_num, HBD⟩, by simp [intOf]; omega⟩
          | (case rel => exact ⟨j + 1, by omega, by go_num, HBD⟩
             case measure => simp [intOf]; omega)
      · have dd : decide (j < l.length) = false := decide_eq_false hlt
        obtain ⟨m, hm⟩ : ∃ m, l.length = m + 1 := ⟨l.length - 1, by omega⟩
        have x1 := H.out.1 wr HB.out m (by omega)
        obtain ⟨x, hx0, hx1, hx2⟩ := HT.out
        rw [hm, Nat.add_sub_cancel] at hx0
        obtain ⟨hml0, hxe⟩ := List.getElem?_eq_some_iff.1 hx0
        rw [hxe] at x1
        have hne : ((x : Int) == 0) = false := by rw [beq_eq_false_iff_ne]; omega
        have hne2 : ((x : Int) != 0) = true := by rw [bne_iff_ne]; omega
        have hmi : (l.length : Int) - 1 = (m : Int) := by omega
        have hl0 : ((l.length : Int) == 0) = false := by rw [beq_eq_false_iff_ne]; omega
        have hml : m < l.length := by omega
        clear hm h0 hx0 hxe
        go_wp2_with fail
        go_ret
        exact ⟨rfl, HB.out⟩
end Go.Proofs.YtpnllalefpkcjaaGreatDoor.Nat_
