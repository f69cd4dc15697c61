/-
nat.Shr: a number shifted down.
-/
import Derived.Test.YtljgiagdmnedpaaNatTimes
namespace Go.Proofs.Ytljgiagdmnedpaa.Nat_
open Go.RowKit Go.Shelf

theorem val_drop_eq (l : List Nat) (h : ∀ x ∈ l, x < 18446744073709551616) (k : Nat) (hk : k ≤ l.length) : val (l.drop k) = val l / 18446744073709551616 ^ k := by
  have h1 := val_append (l.take k) (l.drop k)
  rw [List.take_append_drop, List.length_take, Nat.min_eq_left hk] at h1
  have h2 := val_lt (l.take k) (fun x hx => h x (List.mem_of_mem_take hx))
  rw [List.length_take, Nat.min_eq_left hk] at h2
  rw [h1, Nat.add_mul_div_left _ _ (pow_pos_ k), Nat.div_eq_of_lt h2, Nat.zero_add]
theorem Lb.drop {w : World} {b off len cap : Nat} {l : List Nat} (h : Lb w (.slice (some ⟨b, off, none⟩) len cap) l) (k : Nat) (hk : k ≤ len) : Lb w (.slice (some ⟨b, off + k, none⟩) (len - k) (cap - k)) (l.drop k) := by
  obtain ⟨a', len', cap', he, h1, h2, h3, h0, h4, h5⟩ := h
  obtain ⟨hb, rfl, rfl⟩ : some (⟨b, off, none⟩ : Addr) = a' ∧ len = len' ∧ cap = cap' := by simpa using he
  refine ⟨_, _, _, rfl, by simp; omega, by omega, by omega, by omega, fun x hx => h4 x (List.mem_of_mem_drop hx), fun hp => ?_⟩
  obtain ⟨b', off', ha, hbw, hc⟩ := h5 (by omega)
  rw [← hb] at ha
  obtain ⟨rfl, rfl⟩ : b = b' ∧ off = off' := by simpa using ha
  refine ⟨b, off + k, rfl, hbw, fun i x hi => ?_⟩
  rw [List.getElem?_drop] at hi
  have := hc _ x hi
  rw [Nat.add_assoc]
  exact this
theorem pow_limb (k : Nat) : 18446744073709551616 ^ k = 2 ^ (64 * k) := by
  rw [Nat.pow_mul]
theorem shr_split (x n : Nat) : x / 2 ^ n = x / 18446744073709551616 ^ (n / 64) / 2 ^ (n % 64) := by
  rw [pow_limb, Nat.div_div_eq_div_mul, ← Nat.pow_add]
  congr 2
  omega
theorem shr_part (y m : Nat) (hm : m ≤ 64) : y * 2 ^ (64 - m) / 18446744073709551616 = y / 2 ^ m := by
  have e : (18446744073709551616 : Nat) = 2 ^ m * 2 ^ (64 - m) := by rw [← Nat.pow_add, Nat.add_sub_cancel' hm]
  rw [e, Nat.mul_div_mul_right _ _ (Nat.pow_pos (by decide))]
theorem lb_of_blk {w : World} {G : Nat} {t : TypeId} {O : List Nat} (h : Blk w G t (O.map limbV)) (hl : O.length ≤ 4000000) (hlt : ∀ x ∈ O, x < 18446744073709551616) (c : Nat) (hc : O.length = c) : Lb w (.slice (some ⟨G, 0, none⟩) c c) O := by
  subst hc
  refine ⟨_, _, _, rfl, rfl, Nat.le_refl _, by unfold maxLen; omega, hl, hlt, fun _ => ⟨G, 0, rfl, h.lt, fun i x hi => ?_⟩⟩
  rw [Nat.zero_add, h.cell, List.getElem?_map, hi]
  rfl
theorem shr_long (v : Value) (x n : Nat) (w : World) (hv : Nm w v x) (hL : Lim ≤ x) :
    Calls Try.prog 67 #[v, .int .i64 (n : Int)] w fun e w' => e = .returned (.tuple #[.slice none 0 0, .int .i64 3]) ∧ Below w.heap.size w w' := by
  go_enter Try.func67, Try.ntmps67
  go_wp2_with fail
  refine (normal_any v x _ hv).mono ?_
  rintro e w1 ⟨a1, c1, rfl, hn1, hb1⟩
  go_wp2_with fail
  refine (long1_yes _ x _ _ _ rfl hn1.nm hL).mono ?_
  rintro e w2 ⟨rfl, hb2⟩
  have hb2' := ((Below.refl w1.heap.size w1).alloc (Nat.le_refl _) (.cells #[.slice a1 (nl x) c1] 31)).trans (hb2.mono (by simp))
  go_wp2_with fail
  go_ret2
  exact ⟨rfl, hb1.trans (hb2'.mono hb1.size)⟩
set_option maxRecDepth 100000 in
set_option maxHeartbeats 4000000 in
theorem shr_any (v : Value) (x n : Nat) (w : World) (hv : Nm w v x) (hx : x < Lim) (hn : n ≤ 4611686018427387904) :
    Calls Try.prog 67 #[v, .int .i64 (n : Int)] w fun e w' => Told w.heap.size w' (x / 2 ^ n) e ∧ Below w.heap.size w w' := by
  have hnx := (nl_iff x).2 hx
  go_enter Try.func67, Try.ntmps67
  go_wp2_with fail
  refine (normal_any v x _ hv).mono ?_
  rintro e w1 ⟨a1, c1, rfl, hn1, hb1⟩
  go_wp2_with fail
  refine (long1_no _ x _ _ _ rfl hn1.nm hx).mono ?_
  rintro e w2 ⟨rfl, hb2⟩
  have hb2' := ((Below.refl w1.heap.size w1).alloc (Nat.le_refl _) (.cells #[.slice a1 (nl x) c1] 31)).trans (hb2.mono (by simp))
  have hl1 : Lb w2 (.slice a1 (nl x) c1) (limbs x) := hn1.1.lb.below hb2'
  have hbW : Below w.heap.size w w2 := hb1.trans (hb2'.mono hb1.size)
  have hsp := shr_split x n
  have hlt1 := limbs_lt x
  have hvx := val_limbs x
  have hln : (limbs x).length = nl x := rfl
  generalize limbs x = l at *
  generalize nl x = nx at *
  obtain ⟨q, hq⟩ : ∃ q, n / 64 = q := ⟨_, rfl⟩
  obtain ⟨m, hm⟩ : ∃ m, n % 64 = m := ⟨_, rfl⟩
  have eq1 : (n : Int) / 64 = (q : Int) := by omega
  have em1 : (n : Int) % 64 = (m : Int) := by omega
  have hm64 : m < 64 := by omega
  rw [hq, hm] at hsp
  have HSP := Lib.hid hsp
  have HBW := Lib.hid hbW
  have A := Lib.hid (And.intro hlt1 hvx)
  have HLN := Lib.hid hln
  have hbs := hbW.size
  clear hq hm hsp hb2 hb2' hn1 hb1 hv hx hbW hlt1 hvx
  by_cases hge : nx ≤ q
  · have hz : x / 2 ^ n = 0 := by
      have h1 := val_lt l A.out.1
      rw [A.out.2, hln] at h1
      rw [HSP.out]
      have h2 : 18446744073709551616 ^ nx ≤ 18446744073709551616 ^ q := Nat.pow_le_pow_right (by decide) hge
      rw [Nat.div_eq_of_lt (Nat.lt_of_lt_of_le h1 h2), Nat.zero_div]
    have HZ := Lib.hid hz
    clear hz hln HSP
    go_wp2_with fail
    go_ret2
    rw [HZ.out]
    exact ⟨.inl ⟨by have := (nl_iff 0).1 (by decide); exact this, none, 0, rfl, NN.nil _ _⟩, HBW.out⟩
  have hql : q < nx := by omega
  obtain ⟨b1, off1, rfl, hbw1⟩ := lb_addr hl1 (by omega)
  have hd := hl1.drop q (by omega)
  have hvd := val_drop_eq l A.out.1 q (by omega)
  rw [A.out.2] at hvd
  have HD := Lib.hid hd
  have hdl : (l.drop q).length = nx - q := by rw [List.length_drop, hln]
  have HV := Lib.hid hvd
  have hdlt : ∀ y ∈ l.drop q, y < 18446744073709551616 := fun y hy => A.out.1 y (List.mem_of_mem_drop hy)
  generalize l.drop q = d at *
  have hcap : nx ≤ c1 ∧ c1 ≤ 9223372036854775807 := by
    obtain ⟨a', len', cap', he, -, h2, h3, -⟩ := hl1
    obtain ⟨-, rfl, rfl⟩ : _ ∧ nx = len' ∧ c1 = cap' := by simpa using he
    exact ⟨h2, h3⟩
  have hc1 := hcap.1
  have hc2 := hcap.2
  clear hcap hl1 hvd hge
  by_cases h0 : m = 0
  · subst h0
    have ht := told_lb (.slice (some ⟨b1, off1 + q, none⟩) (nx - q) (c1 - q)) d (x / 2 ^ n) w2 HD.out (by rw [HSP.out, HV.out, Nat.pow_zero, Nat.div_one])
    have HT := Lib.hid ht
    clear ht
    go_wp2_with fail
    refine HT.out.mono ?_
    rintro e w3 ⟨⟨hlt, av, cv, rfl, hn⟩ | ⟨hge, rfl⟩, hb3⟩
    · go_wp2_with fail
      go_ret2
      exact ⟨.inl ⟨hlt, av, cv, rfl, hn.ge hbs⟩, HBW.out.trans (hb3.mono hbs)⟩
    · go_wp2_with fail
      go_ret2
      exact ⟨.inr ⟨hge, rfl⟩, HBW.out.trans (hb3.mono hbs)⟩
  · obtain ⟨s, hs⟩ : ∃ s : Nat, (64 : Int) - (m : Int) = (s : Int) := ⟨64 - m, by omega⟩
    have hs64 : s < 64 := by omega
    have hsm : s = 64 - m := by omega
    have HSM := Lib.hid hsm
    clear hsm
    go_wp2_with fail
    refine (shift_lb _ d s w2 HD.out hs64 (by omega)).mono ?_
    rintro e w3 ⟨rfl, ⟨O, ho1, ho2, ho3, hob⟩, hb3⟩
    have hLb0 := (lb_of_blk hob (by omega) ho2 _ ho1).drop 1 (by omega)
    rw [hdl] at hLb0
    have hLb : Lb w3 (.slice (some ⟨w2.heap.size, 1, none⟩) (nx - q) (nx - q)) (O.drop 1) := by simpa using hLb0
    clear hLb0
    have hval : val (O.drop 1) = x / 2 ^ n := by
      rw [val_drop_eq O ho2 1 (by omega), ho3, HSM.out, Nat.pow_one, shr_part _ m (by omega), HV.out, HSP.out]
    have HT := Lib.hid (told_lb _ _ _ _ hLb hval)
    have hb4 := HBW.out.trans (hb3.mono hbs)
    have hbs4 := hb4.size
    clear hLb hval ho1 ho2 ho3 hob hb3
    go_wp2_with fail
    refine HT.out.mono ?_
    rintro e w4 ⟨⟨hlt, av, cv, rfl, hn⟩ | ⟨hge, rfl⟩, hb5⟩
    · go_wp2_with fail
      go_ret2
      exact ⟨.inl ⟨hlt, av, cv, rfl, hn.ge hbs4⟩, hb4.trans (hb5.mono hbs4)⟩
    · go_wp2_with fail
      go_ret2
      exact ⟨.inr ⟨hge, rfl⟩, hb4.trans (hb5.mono hbs4)⟩
end Go.Proofs.Ytljgiagdmnedpaa.Nat_
