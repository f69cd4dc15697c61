/-
nat.Text: the decimal digits of a number.
-/
import Derived.Test.YtljgiagdmnedpaaNatText
import Derived.ArgAppend
namespace Go.Proofs.Ytljgiagdmnedpaa.Nat_
open Go.RowKit

theorem Try.byteInfo : (Try.prog.info? 5).map (fun i => (i.zero, i.size, i.bytes)) = some (some (.int .u8 0), 1, 1) := by kernel_rfl
/-- What stands in 'out' while Text runs. -/
def OutOf (base : Nat) (w : World) (v : Value) (l : List UInt8) : Prop := w.ownsRow base 5 1 v l.length (bytesV l)
theorem OutOf.ge {B C : Nat} {w : World} {v : Value} {l : List UInt8} (h : OutOf B w v l) (hb : C ≤ B) : OutOf C w v l := by
  obtain ⟨h0, h1⟩ := h
  refine ⟨h0, ?_⟩
  rcases h1 with h1 | ⟨g, cap, cur, e, hB, hr⟩
  · exact .inl h1
  · exact .inr ⟨g, cap, cur, e, by omega, hr⟩
theorem OutOf.below {B : Nat} {w w' : World} {v : Value} {l : List UInt8} (h : OutOf B w v l) (hb : Below w.heap.size w w') : OutOf B w' v l := by
  obtain ⟨h0, h1⟩ := h
  refine ⟨h0, ?_⟩
  rcases h1 with h1 | ⟨g, cap, cur, e, hB, hg, hr⟩
  · exact .inl h1
  · exact .inr ⟨g, cap, cur, e, hB, (hb.block g (Array.getElem?_eq_some_iff.1 hg).1).trans hg, hr⟩
theorem OutOf.slice {B : Nat} {w : World} {v : Value} {l : List UInt8} (h : OutOf B w v l) : ∃ a cap, v = .slice a l.length cap ∧ l.length ≤ cap ∧ (a = none → l.length = 0) ∧ ∀ b, a = some b → ∀ (j : Nat) (u : Value), (bytesV l)[j]? = some u → w.cell? (b.add j) = some u := by
  obtain ⟨-, ⟨rfl, hn⟩ | ⟨g, cap, cur, rfl, hB, hg, hnc, hcm, hcs, htk⟩⟩ := h
  · exact ⟨none, 0, by rw [hn], by omega, fun _ => hn, fun b h => by cases h⟩
  · refine ⟨_, cap, rfl, hnc, (fun h => by cases h), fun b hb j u hj => ?_⟩
    injection hb with hb
    subst hb
    rw [Addr.add_lit, Nat.zero_add]
    rw [Nat.mul_one] at htk
    rw [← htk] at hj
    rw [List.getElem?_take] at hj
    split at hj
    · rw [Array.getElem?_toList] at hj
      unfold World.cell?
      simp only [hg]
      exact hj
    · cases hj

/-- append of a byte to a slice without room. -/
theorem app_byte {ops : Array Oper} {rest : List Oper} {o : Oper} {a : Act} {Q : Exit → Act → World → Prop} (W : World) (hg : o.guard = none) (s x : Operand)
    (hop : o.op = Op.call { callee := Callee.builtin Builtin.append, args := #[s, x], argTypes := #[77, 77] }) (oa : Option Addr) (ol : List UInt8) (b : UInt8) (z : Int) (hz : (b.toNat : Int) = z)
    (hs : a.eval s = .slice oa ol.length ol.length) (hA : (oa = none → ol.length = 0 ∧ ol.length = 0) ∧ ∀ b, oa = some b → ∀ (j : Nat) (u : Value), (bytesV ol)[j]? = some u → W.cell? (b.add j) = some u)
    (hx : a.eval x = .slice (some ⟨W.heap.size, 0, none⟩) 1 1) (hr : ol.length ≤ 1000000)
    (hK : ∀ g cap w', OutOf W.heap.size w' (.slice (some ⟨g, 0, none⟩) (ol ++ [b]).length cap) (ol ++ [b]) → Below W.heap.size W w' → wpList Try.prog ops Q rest (a.put o.dst (.slice (some ⟨g, 0, none⟩) (ol.length + 1) cap)) w') :
    wpList Try.prog ops Q (o :: rest) a (W.alloc (.cells #[.int .u8 z] 5)) := by
  obtain ⟨i0, hi, hz0, hz1, hz2⟩ := info_parts Try.byteInfo
  refine wpList_append_grows _ hg s x 77 hop 5 i0 (.int .u8 0) 1 1 Try.underlying77 hi hz0 hz1 hz2 rfl (by decide) oa ol.length ol.length (bytesV ol) hs hA.1 (by simp [bytesV_length]) ?_ ⟨W.heap.size, 0, none⟩ 1 1 [.int .u8 z] hx rfl (cell_one_new _ _ _) (by simp [Value.oneCell']) (by omega) (by unfold maxLen; omega) (by omega) ?_
  · intro b hb j u hj
    have h := hA.2 b hb j u hj
    have hlt := World.block_lt_of_cell? W _ h
    exact (((Below.refl W.heap.size W).alloc (Nat.le_refl _) _).cell hlt).trans h
  · intro v' w' h1 h2
    obtain ⟨g, cap, rfl⟩ := ownsRow_succ h1
    refine hK g cap w' ?_ (((Below.refl W.heap.size W).alloc (Nat.le_refl _) (.cells #[.int .u8 z] 5)).grown h2 (by simp) (fun k e => by cases e))
    have h3 : OutOf (W.alloc (.cells #[.int .u8 z] 5)).heap.size w' (.slice (some ⟨g, 0, none⟩) (ol ++ [b]).length cap) (ol ++ [b]) := by
      show World.ownsRow _ _ _ _ _ _ _
      rw [List.length_append, List.length_singleton, bytesV_append]
      have e : bytesV [b] = [.int .u8 z] := by rw [← hz]; rfl
      rw [e]
      exact h1
    exact h3.ge (by simp)
theorem pow_ten (k : Nat) : 18446744073709551616 ^ k ≤ 10 ^ (20 * k) := by
  rw [Nat.pow_mul]
  exact Nat.pow_le_pow_left (by decide) k
theorem lim_ten (n k : Nat) (hk : k = 2048) (h : n < Lim) : n < 10 ^ (20 * k) := by
  have h1 := (lim_iff n).2 h
  rw [← hk] at h1
  exact Nat.lt_of_lt_of_le ((limbs_len k n).1 h1) (pow_ten k)
theorem dig_bound (n : Nat) (h : n < Lim) : (dig n).length ≤ 40960 := by
  obtain ⟨k, hk⟩ : ∃ k, k = 2048 := ⟨_, rfl⟩
  have := (dig_len (20 * k) n).2 (lim_ten n k hk h)
  omega
def lenOf : Value → Nat | .slice _ n _ => n | _ => 0
theorem dig_ne (m : Nat) (h : m ≠ 0) : 0 < (dig m).length := by
  rcases Nat.eq_zero_or_pos (dig m).length with h0 | h0
  · exact absurd ((dig_nil m).1 (List.length_eq_zero_iff.1 h0)) h
  · exact h0

set_option maxRecDepth 100000 in
set_option maxHeartbeats 4000000 in
theorem text_ok (v : Value) (n : Nat) (w : World) (hv : Nm w v n) (hn : n < Lim) :
    Calls Try.prog 33 #[v] w fun e w' => e = .returned (.string ⟨(decs n).toArray⟩) ∧ Below w.heap.size w w' := by
  have hv0 := hv
  obtain ⟨a, len, cap, rfl, -, -, -⟩ := hv.slice
  go_enter Try.func33, Try.ntmps33
  go_wp2_with fail
  refine (long1_no _ _ _ _ _ rfl hv0 hn).mono ?_
  rintro e w1 ⟨rfl, hb1⟩
  have hb1' := ((Below.refl w.heap.size w).alloc (Nat.le_refl _) (.cells #[.slice a len cap] 31)).trans (hb1.mono (by simp))
  have hv1 := hv0.below hb1'
  clear hb1 hv0 hv
  go_wp2_with fail
  refine (normal_any _ n _ hv1).mono ?_
  rintro e w2 ⟨a1, c1, rfl, hn1, hb2⟩
  have hb2' := hb1'.trans (hb2.mono hb1'.size)
  have hsz := hn1.size
  have hs1 := hb1'.size
  clear hb2 hv1 hb1'
  by_cases hz : nl n = 0
  · have hn0 := (nl_zero n).1 hz
    go_wp2_with fail
    go_ret
    exact ⟨ret_str (by subst hn0; rfl), hb2'⟩
  · have hn0 : n ≠ 0 := fun h => hz ((nl_zero n).2 h)
    go_wp2_with fail
    have hdb := dig_bound n hn
    obtain ⟨D, hD⟩ : ∃ D, (dig n).length = D := ⟨_, rfl⟩
    rw [hD] at hdb
    obtain ⟨i0, hi, hz0, hz1, hz2⟩ := info_parts Try.byteInfo
    have hz2 : (((nl n : Nat) : Int) == 0) = false := by simp; omega
    rw [hz2]
    clear hz2
    go_loopw [0, 3] (fun av ov wr => ∃ (m : Nat) (a : Option Addr) (c : Nat) (l : List UInt8), av = .slice a (nl m) c ∧ NN w.heap.size wr (.slice a (nl m) c) m ∧ OutOf w.heap.size wr ov l ∧ Hid (m < Lim ∧ dig n = l ++ dig m) ∧ Below w.heap.size w wr) (fun _ ov _ => D - lenOf ov)
    case atStart => exact ⟨n, a1, c1, [], rfl, hn1.ge hs1, World.ownsRow_nil _ _ _ _, ⟨hn, rfl⟩, hb2'⟩
    case round =>
      have HN0 := Lib.hid hn0
      clear hsz hz hn0 hn1
      obtain ⟨m, a, c, l, rfl, hm, hO, HD, hbel⟩ := hrel
      have hms := hm.size
      have hzm := nl_zero m
      by_cases hmz : nl m = 0
      · have hm0 := hzm.1 hmz
        have hfull := HD.out.2
        rw [hm0, dig_zero, List.append_nil] at hfull
        have hlD : l.length ≤ 1000000 := by
          have : l.length = D := by rw [← hD, hfull]
          omega
        have hl0 : 0 < l.length := by
          rw [← hfull]
          exact dig_ne n HN0.out
        obtain ⟨g, cg, z, rfl, hgB, hblk⟩ := own_bytes hO hl0
        have HFULL := Lib.hid hfull
        clear hfull hzm
        rw [hmz]
        go_wp2_with fail
        refine (reverse_any g cg l z wr hlD hblk).mono ?_
        rintro e w3 ⟨⟨rv, rfl⟩, hblk3, hg3⟩
        have hB3 : Below w.heap.size w w3 := below_grown hbel hg3 hbel.size hgB
        have hstr := run_str_of_blk (P := Try.prog) (w := w3) 77 9 5 Try.underlying77 Try.underlying5 Try.underlying9 g 0 l.length cg l.reverse (by simp) _ _ hblk3 (by
          rw [List.drop_zero, List.take_append_of_le_length (by rw [bytesV_length]; simp)]
          exact List.take_of_length_le (by rw [bytesV_length]; simp))
        have HS := Lib.hid (show decs n = l.reverse by unfold decs; rw [if_neg HN0.out, HFULL.out])
        go_wp2_with fail
        go_ret
        rw [HS.out]
        exact ⟨rfl, hB3⟩
      · have hm0 : m ≠ 0 := fun h => hmz (hzm.2 h)
        have hdm := dig_ne m hm0
        have hlen0 : l.length < D := by
          have := congrArg List.length HD.out.2
          rw [List.length_append] at this
          omega
        have hsm := Nat.div_add_mod m 10000000000000000000
        have hsr := Nat.mod_lt m (show 10000000000000000000 > 0 by decide)
        obtain ⟨q, hq⟩ : ∃ q, m / 10000000000000000000 = q := ⟨_, rfl⟩
        obtain ⟨r, hr⟩ : ∃ r, m % 10000000000000000000 = r := ⟨_, rfl⟩
        have hcall := small_lb (.slice a (nl m) c) (limbs m) 10000000000000000000 wr hm.1.lb (by decide) (by decide)
        rw [val_limbs, hq, hr] at hcall
        rw [hq, hr] at hsm
        rw [hr] at hsr
        have HM := Lib.hid (And.intro hsm (And.intro hq hr))
        clear hsm hq hr hzm
        obtain ⟨oa, ocap, hov, hoc, hon, hocell⟩ := hO.slice
        subst hov
        go_wp2_with fail
        refine hcall.mono ?_
        rintro e w3 ⟨a3, c3, rfl, ho3, hb3⟩
        have hO3 := hO.below hb3
        have hbel3 := hbel.trans (hb3.mono hbel.size)
        have hq3 : Ow w.heap.size w3 (.slice a3 (nl q) c3) (limbs q) := ho3.ge hbel.size
        have hnq : nl q ≤ 4000000 := ho3.2.1
        have hzq := nl_zero q
        go_wp2_with fail
        have hqn : nl q ≤ 1000000 := by
          have h1 := HM.out.1
          have h2 := HD.out.1
          have h3 := (nl_iff q).2 (by omega)
          omega
        have HQ := Lib.hid (show q < Lim by
          have h1 := HM.out.1
          have h2 := HD.out.1
          omega)
        have HN3 : NN w.heap.size w3 (.slice a3 (nl q) c3) q := ⟨hq3, hqn⟩
        have HD3 := Lib.hid (show dig n = l ++ dig (q * 10 ^ (19 - 0) + r) by
          rw [HD.out.2, ← HM.out.1, Nat.mul_comm])
        have hr3 : r < 10 ^ (19 - 0) := hsr
        have hposn : 0 < r ∨ 0 < nl q := by
          rcases Nat.eq_zero_or_pos r with h | h
          · right
            rcases Nat.eq_zero_or_pos (nl q) with h' | h'
            · have := hzq.1 h'
              have h1 := HM.out.1
              omega
            · exact h'
          · exact .inl h
        have HR3 := Lib.hid hr3
        have HZ := Lib.hid hzq
        clear hcall hsr hr3 hO hq3 hnq ho3 hb3 hzq
        go_loopw [3, 4, 5] (fun ov rv iv wr => ∃ (ii rr : Nat) (oa : Option Addr) (oc : Nat) (ol : List UInt8), ii ≤ 19 ∧ iv = .int .i64 (ii : Int) ∧ rv = .int .u64 (rr : Int) ∧ rr < 18446744073709551616 ∧ ov = .slice oa ol.length oc ∧ l.length + ii ≤ ol.length ∧ (ii = 0 → 0 < rr ∨ 0 < nl q) ∧ Hid (rr < 10 ^ (19 - ii)) ∧ Hid (dig n = ol ++ dig (q * 10 ^ (19 - ii) + rr)) ∧
          OutOf w.heap.size wr (.slice oa ol.length oc) ol ∧ NN w.heap.size wr (.slice a3 (nl q) c3) q ∧ Below w.heap.size w wr) (fun _ _ iv _ => 19 - (intOf iv).toNat)
        case atStart => exact ⟨0, r, oa, ocap, l, by decide, rfl, rfl, by have := HR3.out; simp at this; omega, rfl, by omega, fun _ => hposn, HR3, HD3, hO3, HN3, hbel3⟩
        case round =>
          clear hO3 HN3 HD3 HR3 hocell hon hoc hposn
          obtain ⟨ii, rr, oa', oc', ol, hii, rfl, rfl, hrr, rfl, hll, h00, HR, HE, hO, hN, hB⟩ := hrel
          have hol : ol.length ≤ D := by
            have := congrArg List.length HE.out
            rw [List.length_append, hD] at this
            omega
          by_cases hgo : ii < 19 ∧ (0 < rr ∨ 0 < nl q)
          · obtain ⟨k, hk⟩ : ∃ k, 19 - ii = k + 1 := ⟨18 - ii, by omega⟩
            have hE := HE.out
            have hRR := HR.out
            rw [hk] at hE hRR
            rw [dig_step q k rr (by
              rcases hgo.2 with h | h
              · exact .inl h
              · right
                rcases Nat.eq_zero_or_pos q with h' | h'
                · have := HZ.out.2 h'
                  omega
                · exact h')] at hE
            have hk2 : 19 - (ii + 1) = k := by omega
            have HE2 := Lib.hid (show dig n = (ol ++ [UInt8.ofNat (48 + rr % 10)]) ++ dig (q * 10 ^ (19 - (ii + 1)) + rr / 10) by
              rw [hk2, List.append_assoc]; exact hE)
            have HR2 := Lib.hid (show rr / 10 < 10 ^ (19 - (ii + 1)) by
              rw [hk2, Nat.div_lt_iff_lt_mul (by decide), ← Nat.pow_succ]; exact hRR)
            have hdb2 := digit_byte rr
            obtain ⟨oa, ocap, hov, hoc, hon, hocell⟩ := hO.slice
            obtain ⟨rfl, rfl⟩ : oa' = oa ∧ oc' = ocap := by simpa using hov
            have A : Go.Aside ((oa' = none → ol.length = 0 ∧ ol.length = 0) ∧ ∀ b, oa' = some b → ∀ (j : Nat) (u : Value), (bytesV ol)[j]? = some u → wr.cell? (b.add j) = some u) := ⟨fun h => ⟨hon h, hon h⟩, hocell⟩
            clear hov hon hocell hE hRR hk hk2 HE HR
            have HO := Lib.hid hO
            clear hO
            have HX := Lib.hid hgo
            obtain ⟨hg1, hg2⟩ := hgo
            by_cases hr0 : rr = 0
            · subst hr0
              have hq0 : 0 < nl q := by omega
              go_wp2_with (at_builtin; refine app_byte wr rfl _ _ rfl oa' ol (UInt8.ofNat (48 + 0 % 10)) 48 (by decide) rfl A.out rfl (by omega) ?_; intro g' cap' w4 hO4 hb4)
              go_roundw
              case rel =>
                have hB4 := hB.trans (hb4.mono hB.size)
                refine ⟨ii + 1, 0 / 10, some ⟨g', 0, none⟩, cap', _, by omega, by simp, by simp, by omega, ?_, ?_, by omega, HR2, HE2, hO4.ge hB.size, hN.below hb4, hB4⟩
                · rw [List.length_append, List.length_singleton]
                · rw [List.length_append, List.length_singleton]; omega
              case measure => simp [intOf]; omega
            · have hr1 : 0 < rr := by omega
              go_wp2_with (at_builtin; refine app_byte wr rfl _ _ rfl oa' ol (UInt8.ofNat (48 + rr % 10)) _ hdb2 rfl A.out rfl (by omega) ?_; intro g' cap' w4 hO4 hb4)
              go_roundw
              case rel =>
                have hB4 := hB.trans (hb4.mono hB.size)
                refine ⟨ii + 1, rr / 10, some ⟨g', 0, none⟩, cap', _, by omega, by simp, by simp, by omega, ?_, ?_, by omega, HR2, HE2, hO4.ge hB.size, hN.below hb4, hB4⟩
                · rw [List.length_append, List.length_singleton]
                · rw [List.length_append, List.length_singleton]; omega
              case measure => simp [intOf]; omega
          · have hE := HE.out
            have hi0 : ii ≠ 0 := fun h => hgo ⟨by omega, h00 h⟩
            have hfin : dig n = ol ++ dig q := by
              rw [hE]
              congr 2
              by_cases h19 : ii = 19
              · have hR := HR.out
                rw [h19] at hR ⊢
                simp at hR ⊢
                exact hR
              · have h2 : ¬ (0 < rr ∨ 0 < nl q) := fun h => hgo ⟨by omega, h⟩
                have h3 : rr = 0 := by omega
                have h4 : q = 0 := HZ.out.1 (by omega)
                rw [h3, h4, Nat.zero_mul]
            have HF := Lib.hid (And.intro HQ.out hfin)
            clear hE hfin HE HR
            by_cases h19 : ii = 19
            · subst h19
              go_wp2_with fail
              go_roundw
              case rel => first | exact ⟨q, a3, c3, ol, rfl, hN, hO, HF, hB⟩ | exact ⟨q, a3, c3, ⟨rfl, rfl, rfl⟩, hN, ol, hO, HF⟩
              case measure => show D - ol.length < D - l.length; omega
            · have h3 : rr = 0 := by omega
              have h5 : nl q = 0 := by omega
              subst h3
              have H5 := Lib.hid h5
              rw [h5]
              clear h5
              have hii : ii < 19 := by omega
              go_wp2_with fail
              go_roundw
              case rel =>
                have h6 := H5.out
                rw [h6] at hN
                first | exact ⟨q, a3, c3, ol, by rw [h6], by rw [h6]; exact hN, hO, HF, hB⟩ | exact ⟨q, a3, c3, ⟨rfl, h6.symm, rfl⟩, by rw [h6]; exact hN, ol, hO, HF⟩
              case measure => show D - ol.length < D - l.length; omega
end Go.Proofs.Ytljgiagdmnedpaa.Nat_
