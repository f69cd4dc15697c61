/-
NotchOrder: of two numbers the lesser one's bytes lie ahead, whatever stands behind them, and that neither's begin the other one's, but of one number; what stands behind of more than 100 bytes is let go. No condition.
-/
import Derived.Test.YtmmlmcanjacngaaNotchHead
import Derived.Test.YtmmlmcanjacngaaNotchRef
import Derived.RegionTactic
import Derived.ChangeAlike
namespace Go.Proofs.Ytmmlmcanjacngaa.Notch
open Go.RowKit

theorem lex_lt : ∀ (x y s t : List UInt8), x.length = y.length → bev x < bev y → Op.bytesLess (x ++ s) (y ++ t) = true ∧ Op.bytesLess (y ++ t) (x ++ s) = false
  | [], [], _, _, _, h => by simp [bev] at h
  | [], _ :: _, _, _, h, _ => by simp at h
  | _ :: _, [], _, _, h, _ => by simp at h
  | a :: x, b :: y, s, t, hl, h => by
    have hl' : x.length = y.length := by simpa using hl
    have bx := bev_lt x
    have by_ := bev_lt y
    rw [bev_cons, bev_cons, hl'] at h
    rw [hl'] at bx
    simp only [List.cons_append, Op.bytesLess]
    by_cases hab : a.toNat = b.toNat
    · have e : a = b := UInt8.toNat_inj.1 hab
      subst e
      have h2 : bev x < bev y := by omega
      obtain ⟨i1, i2⟩ := lex_lt x y s t hl' h2
      rw [i1, i2]
      simp
    · have hlt : a.toNat < b.toNat := by
        rcases Nat.lt_or_ge a.toNat b.toNat with h' | h'
        · exact h'
        · exfalso
          have : (b.toNat + 1) * 256 ^ y.length ≤ a.toNat * 256 ^ y.length := Nat.mul_le_mul_right _ (by omega)
          rw [Nat.add_mul] at this
          omega
      have h1 : a < b := UInt8.lt_iff_toNat_lt.2 hlt
      have h2 : ¬ b < a := fun h3 => by have := UInt8.lt_iff_toNat_lt.1 h3; omega
      have h3 : ¬ b = a := fun h4 => by rw [h4] at hlt; omega
      refine ⟨?_, ?_⟩
      · rw [decide_eq_true h1]; rfl
      · rw [decide_eq_false h2, beq_eq_false_iff_ne.2 h3]; rfl
theorem nb_mono (a b : Nat) (h : a < b) (hb : b < 18446744073709551616) : nb a ≤ nb b := by
  by_cases h0 : a = 0
  · rw [h0, nb_zero]; omega
  · obtain ⟨-, -, c, -⟩ := nb_bounds a (by omega) h0
    have d := nb_lt b hb
    rcases Nat.lt_or_ge (nb b) (nb a) with h' | h'
    · have := Nat.pow_le_pow_right (n := 256) (by decide) (show nb b ≤ nb a - 1 by omega)
      omega
    · exact h'
theorem enc_lt (a b : Nat) (s t : List UInt8) (h : a < b) (hb : b < 18446744073709551616) : Op.bytesLess (encL a ++ s) (encL b ++ t) = true ∧ Op.bytesLess (encL b ++ t) (encL a ++ s) = false := by
  have hm := nb_mono a b h hb
  have h8 := nb_le b hb
  unfold encL
  by_cases he : nb a = nb b
  · simp only [List.cons_append, Op.bytesLess, he]
    have hlt : bev (beK a (nb b)) < bev (beK b (nb b)) := by
      rw [bev_beK (nb b) b (nb_lt b hb), bev_beK (nb b) a (by rw [← he]; exact nb_lt a (by omega))]
      exact h
    obtain ⟨i1, i2⟩ := lex_lt (beK a (nb b)) (beK b (nb b)) s t (by simp [beK_length]) hlt
    rw [i1, i2]
    simp
  · simp only [List.cons_append, Op.bytesLess]
    have h1 : UInt8.ofNat (nb a) < UInt8.ofNat (nb b) := by
      rw [UInt8.lt_iff_toNat_lt]
      simp only [UInt8.toNat_ofNat']
      omega
    have h2 : ¬ UInt8.ofNat (nb b) < UInt8.ofNat (nb a) := fun h3 => by
      rw [UInt8.lt_iff_toNat_lt] at h1 h3
      omega
    have h3 : ¬ UInt8.ofNat (nb b) = UInt8.ofNat (nb a) := fun h4 => by
      rw [UInt8.lt_iff_toNat_lt, h4] at h1
      omega
    refine ⟨?_, ?_⟩
    · rw [decide_eq_true h1]; rfl
    · rw [decide_eq_false h2, beq_eq_false_iff_ne.2 h3]; rfl
theorem enc_prefix (a b : Nat) (ha : a < 18446744073709551616) (hb : b < 18446744073709551616) (hne : a ≠ b) : (encL b).take (encL a).length ≠ encL a := by
  intro h
  have e : encL b = encL a ++ (encL b).drop (encL a).length := by
    conv => lhs; rw [← List.take_append_drop (encL a).length (encL b), h]
  have r1 := readN_enc b hb []
  have r2 := readN_enc a ha ((encL b).drop (encL a).length)
  rw [← e] at r2
  rw [List.append_nil] at r1
  rw [r1] at r2
  injection r2 with r2
  exact hne (congrArg Prod.fst r2).symm

theorem encB_list (n : Nat) : (encB [n]).toList = encL n := by
  rw [ByteArray.toList_eq]
  simp [encB, encAll]
theorem encB_len (n : Nat) : (encB [n]).size = (encL n).length := by
  show (encAll [n]).toArray.size = _
  simp [encAll]
theorem order_facts (a b : Nat) (s t X Y XS YT : ByteArray) (hX : X = encB [a]) (hY : Y = encB [b]) (hXS : XS = X ++ s) (hYT : YT = Y ++ t) (ha : a < 18446744073709551616) (hb : b < 18446744073709551616) (hne : a ≠ b) :
    Op.bytesLess XS.toList YT.toList = decide (a < b) ∧ ((Y.extract 0 X.size).toList == X.toList) = false ∧ ((X.extract 0 Y.size).toList == Y.toList) = false ∧ X.size = nb a + 1 ∧ Y.size = nb b + 1 := by
  subst hX hY hXS hYT
  have l1 : (encB [a] ++ s).toList = encL a ++ s.data.toList := by rw [ByteArray.toList_eq]; simp [encB, encAll]
  have l2 : (encB [b] ++ t).toList = encL b ++ t.data.toList := by rw [ByteArray.toList_eq]; simp [encB, encAll]
  have d1 : (encB [a]).data.toList = encL a := by simp [encB, encAll]
  have d2 : (encB [b]).data.toList = encL b := by simp [encB, encAll]
  rw [l1, l2, encB_len, encB_len, encB_list, encB_list, ByteArray.toList_eq, ByteArray.toList_eq, ex_take, ex_take, d1, d2]
  refine ⟨?_, beq_eq_false_iff_ne.2 (enc_prefix a b ha hb hne), beq_eq_false_iff_ne.2 (enc_prefix b a hb ha (Ne.symm hne)), encL_length a, encL_length b⟩
  by_cases h : a < b
  · rw [(enc_lt a b _ _ h hb).1]; simp [h]
  · rw [(enc_lt b a _ _ (by omega) ha).2]; simp [h]

theorem boxed (w : World) (o : Obj) : Below w.heap.size w (w.alloc o).drew := ((Below.refl _ _).alloc (Nat.le_refl _) _).drew
theorem order_let (a b : Int) (s t : ByteArray) (w : World) (hs : s.size ≤ maxLen) (ht : t.size ≤ maxLen) (hl : 100 < s.size ∨ 100 < t.size) :
    Calls Try.prog 4 #[.agg #[.int .u64 a, .int .u64 b, .string s, .string t]] w fun e w' => e = .returned (.bool true) ∧ Below w.heap.size w w' := by
  unfold maxLen at hs ht
  by_cases h1 : 100 < s.size
  · have hd : decide ((100 : Int) < (s.size : Int)) = true := by simp; omega
    clear hl
    go_enter Try.func4, Try.ntmps4
    go_wp2_with fail
    go_region
    go_wp2_with fail
    refine (head_any _).mono ?_
    rintro e w1 ⟨rfl, hb1⟩
    go_wp2_with fail
    go_ret
    exact ⟨rfl, (boxed w _).trans (hb1.mono (boxed w _).size)⟩
  · have hd : decide ((100 : Int) < (s.size : Int)) = false := by simp; omega
    have hd2 : decide ((100 : Int) < (t.size : Int)) = true := by simp; omega
    clear hl
    go_enter Try.func4, Try.ntmps4
    go_wp2_with fail
    go_region
    go_wp2_with fail
    refine (head_any _).mono ?_
    rintro e w1 ⟨rfl, hb1⟩
    go_wp2_with fail
    go_ret
    exact ⟨rfl, (boxed w _).trans (hb1.mono (boxed w _).size)⟩

set_option maxHeartbeats 800000 in
theorem order_same (a : Int) (s t : ByteArray) (w : World) (h0 : 0 ≤ a) (h1 : a < 18446744073709551616) (hs : s.size ≤ 100) (ht : t.size ≤ 100) :
    Calls Try.prog 4 #[.agg #[.int .u64 a, .int .u64 a, .string s, .string t]] w fun e w' => e = .returned (.bool true) ∧ Below w.heap.size w w' := by
  have hd : decide ((100 : Int) < (s.size : Int)) = false := by simp; omega
  have hd2 : decide ((100 : Int) < (t.size : Int)) = false := by simp; omega
  have c := fun W e => put_any a W h0 h1 e
  have t1 : ((encB [a.toNat]).toList == (encB [a.toNat]).toList) = true := by simp
  generalize encB [a.toNat] = X at *
  have C := Lib.hid c
  clear c
  go_enter Try.func4, Try.ntmps4
  go_wp2_with fail
  go_region
  have hb0 := boxed w (.cells #[.int .u64 a, .int .u64 a, .string s, .string t] 32)
  generalize (w.alloc (.cells #[.int .u64 a, .int .u64 a, .string s, .string t] 32)).drew = W0 at *
  go_wp2_with fail
  refine (C.out W0 _).mono ?_
  rintro e w1 ⟨rfl, hb1⟩
  go_wp2_with fail
  refine (C.out w1 _).mono ?_
  rintro e w2 ⟨rfl, hb2⟩
  go_wp2_with fail
  refine (head_any w2).mono ?_
  rintro e w3 ⟨rfl, hb3⟩
  go_wp2_with fail
  go_ret
  have b1 := hb0.trans (hb1.mono hb0.size)
  have b2 := b1.trans (hb2.mono b1.size)
  exact ⟨rfl, b2.trans (hb3.mono b2.size)⟩

set_option maxHeartbeats 1000000 in
theorem order_main (a b : Int) (s t : ByteArray) (w : World) (h0 : 0 ≤ a) (h1 : a < 18446744073709551616) (g0 : 0 ≤ b) (g1 : b < 18446744073709551616) (hs : s.size ≤ 100) (ht : t.size ≤ 100) (hne : a ≠ b) :
    Calls Try.prog 4 #[.agg #[.int .u64 a, .int .u64 b, .string s, .string t]] w fun e w' => e = .returned (.bool true) ∧ Below w.heap.size w w' := by
  have hd : decide ((100 : Int) < (s.size : Int)) = false := by simp; omega
  have hd2 : decide ((100 : Int) < (t.size : Int)) = false := by simp; omega
  have hab : (a == b) = false := by rw [beq_eq_false_iff_ne]; exact hne
  have c := fun W e => put_any a W h0 h1 e
  have d := fun W e => put_any b W g0 g1 e
  have la := fun W => long_any a W h0 h1
  have lb := fun W => long_any b W g0 g1
  have ha8 := nb_le a.toNat (by omega)
  have hb8 := nb_le b.toNat (by omega)
  have hmono := nb_mono a.toNat b.toNat
  obtain ⟨X, hX⟩ : ∃ X, X = encB [a.toNat] := ⟨_, rfl⟩
  obtain ⟨Y, hY⟩ : ∃ Y, Y = encB [b.toNat] := ⟨_, rfl⟩
  obtain ⟨XS, hXS⟩ : ∃ XS, X ++ s = XS := ⟨_, rfl⟩
  obtain ⟨YT, hYT⟩ : ∃ YT, Y ++ t = YT := ⟨_, rfl⟩
  obtain ⟨f1, f2, f3, f4, f5⟩ := order_facts a.toNat b.toNat s t X Y XS YT hX hY hXS.symm hYT.symm (by omega) (by omega) (by omega)
  rw [← hX] at c
  rw [← hY] at d
  have hXz : X.size ≤ 9 := by omega
  have hYz : Y.size ≤ 9 := by omega
  have C := Lib.hid c
  have D := Lib.hid d
  have LA := Lib.hid la
  have LB := Lib.hid lb
  have F4 := Lib.hid f4
  have F5 := Lib.hid f5
  clear c d la lb hX hY
  have e1 : Op.bytesLess XS.toList YT.toList = decide (a < b) := by
    rw [f1]
    congr 1
    exact propext ⟨fun h => by omega, fun h => by omega⟩
  have E1 := Lib.hid e1
  clear e1 f1
  by_cases hlt : a < b
  · have e1 : Op.bytesLess XS.toList YT.toList = true := by rw [E1.out]; simpa using hlt
    have e4 : nb a.toNat ≤ nb b.toNat := hmono (by omega) (by omega)
    generalize nb a.toNat = ka at *
    generalize nb b.toNat = kb at *
    clear hmono f4 f5
    go_enter Try.func4, Try.ntmps4
    go_wp2_with fail
    go_region
    have hb0 := boxed w (.cells #[.int .u64 a, .int .u64 b, .string s, .string t] 32)
    generalize (w.alloc (.cells #[.int .u64 a, .int .u64 b, .string s, .string t] 32)).drew = W0 at *
    go_wp2_with fail
    refine (C.out W0 _).mono ?_
    rintro e w1 ⟨rfl, hb1⟩
    go_wp2_with fail
    refine (D.out w1 _).mono ?_
    rintro e w2 ⟨rfl, hb2⟩
    have b1 := hb0.trans (hb1.mono hb0.size)
    have b2 := b1.trans (hb2.mono b1.size)
    go_wp2_with fail
    all_goals
      refine (LA.out w2).mono ?_
      rintro e w' ⟨rfl, rfl⟩
      go_wp2_with fail
      refine (LB.out w2).mono ?_
      rintro e w' ⟨rfl, rfl⟩
      go_wp2_with fail
      all_goals
        refine (head_any w2).mono ?_
        rintro e w3 ⟨rfl, hb3⟩
        go_wp2_with fail
        go_ret
        exact ⟨rfl, b2.trans (hb3.mono b2.size)⟩
  · have e1 : Op.bytesLess XS.toList YT.toList = false := by rw [E1.out]; simpa using hlt
    have hgt : b < a := by omega
    generalize nb a.toNat = ka at *
    generalize nb b.toNat = kb at *
    clear hmono f4 f5
    go_enter Try.func4, Try.ntmps4
    go_wp2_with fail
    go_region
    have hb0 := boxed w (.cells #[.int .u64 a, .int .u64 b, .string s, .string t] 32)
    generalize (w.alloc (.cells #[.int .u64 a, .int .u64 b, .string s, .string t] 32)).drew = W0 at *
    go_wp2_with fail
    refine (C.out W0 _).mono ?_
    rintro e w1 ⟨rfl, hb1⟩
    go_wp2_with fail
    refine (D.out w1 _).mono ?_
    rintro e w2 ⟨rfl, hb2⟩
    have b1 := hb0.trans (hb1.mono hb0.size)
    have b2 := b1.trans (hb2.mono b1.size)
    go_wp2_with fail
    all_goals
      refine (LA.out w2).mono ?_
      rintro e w' ⟨rfl, rfl⟩
      go_wp2_with fail
      refine (LB.out w2).mono ?_
      rintro e w' ⟨rfl, rfl⟩
      go_wp2_with fail
      all_goals
        refine (head_any w2).mono ?_
        rintro e w3 ⟨rfl, hb3⟩
        go_wp2_with fail
        go_ret
        exact ⟨rfl, b2.trans (hb3.mono b2.size)⟩
theorem notchOrder_walk (a b : Int) (s t : ByteArray) (w : World) (h0 : 0 ≤ a) (h1 : a < 18446744073709551616) (g0 : 0 ≤ b) (g1 : b < 18446744073709551616) (hs : s.size ≤ maxLen) (ht : t.size ≤ maxLen) :
    Calls Try.prog 4 #[.agg #[.int .u64 a, .int .u64 b, .string s, .string t]] w fun e w' => e = .returned (.bool true) ∧ Below w.heap.size w w' := by
  by_cases hl : 100 < s.size ∨ 100 < t.size
  · exact order_let a b s t w hs ht hl
  · by_cases hab : a = b
    · subst hab
      exact order_same a s t w h0 h1 (by omega) (by omega)
    · exact order_main a b s t w h0 h1 g0 g1 (by omega) (by omega) hab
end Go.Proofs.Ytmmlmcanjacngaa.Notch
