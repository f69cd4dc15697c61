/-
nat.Bits; zint: of, told, Of, Text, Parse.
-/
import Derived.Test.YtpnllalefpkcjaaGreatDoorNatParse
namespace Go.Proofs.YtpnllalefpkcjaaGreatDoor.Nat_
open Go.RowKit

/-- How many bits a number has. -/
def nbits (n : Nat) : Nat := if n = 0 then 0 else Nat.log2 n + 1
theorem nbits_spec (n : Nat) (h : n ≠ 0) : 2 ^ (nbits n - 1) ≤ n ∧ n < 2 ^ nbits n ∧ 1 ≤ nbits n := by
  unfold nbits
  rw [if_neg h]
  exact ⟨Nat.log2_self_le h, Nat.lt_log2_self, by omega⟩
theorem nbits_uniq (n k : Nat) (h1 : 2 ^ k ≤ n) (h2 : n < 2 ^ (k + 1)) : nbits n = k + 1 := by
  have hp : 0 < 2 ^ k := Nat.pow_pos (by decide)
  have h0 : n ≠ 0 := by omega
  unfold nbits
  rw [if_neg h0]
  have h3 : Nat.log2 n < k + 1 := (Nat.log2_lt h0).2 h2
  have h4 : k ≤ Nat.log2 n := (Nat.le_log2 h0).2 h1
  omega
theorem nbits_zero (n : Nat) : nbits n = 0 ↔ n = 0 := by
  constructor
  · intro h
    rcases Nat.eq_zero_or_pos n with h0 | h0
    · exact h0
    · have := (nbits_spec n (by omega)).2.2
      omega
  · rintro rfl; rfl
theorem val_top : ∀ (l : List Nat) (x : Nat), val (l ++ [x]) = val l + 18446744073709551616 ^ l.length * x := val_snoc
/-- The bits of a number by its top limb. -/
theorem nbits_top (l : List Nat) (x : Nat) (hl : ∀ y ∈ l, y < 18446744073709551616) (hx : 0 < x) : nbits (val (l ++ [x])) = 64 * l.length + nbits x := by
  obtain ⟨h1, h2, h3⟩ := nbits_spec x (by omega)
  have hv := val_lt l hl
  have hp : (18446744073709551616 : Nat) ^ l.length = 2 ^ (64 * l.length) := by rw [Nat.pow_mul]
  obtain ⟨k, hk⟩ : ∃ k, nbits x = k + 1 := ⟨nbits x - 1, by omega⟩
  rw [hk] at h1 h2 ⊢
  rw [Nat.add_sub_cancel] at h1
  rw [← Nat.add_assoc]
  refine nbits_uniq _ _ ?_ ?_
  · rw [val_snoc, hp, Nat.pow_add]
    have := Nat.mul_le_mul_left (2 ^ (64 * l.length)) h1
    omega
  · rw [val_snoc, Nat.add_assoc, Nat.pow_add, hp] 
    rw [hp] at hv
    have := Nat.mul_le_mul_left (2 ^ (64 * l.length)) (show x + 1 ≤ 2 ^ (k + 1) from h2)
    rw [Nat.mul_add, Nat.mul_one] at this
    omega
theorem len64_any (x : Nat) (h : x < 18446744073709551616) (w : World) :
    Calls Tryz.prog 66 #[.int .u64 (x : Int)] w fun e w' => e = .returned (.int .i64 (nbits x : Int)) ∧ w' = w := by
  refine (Tryz.bits_Len64 (x : Int) w (by omega) (by omega)).mono ?_
  rintro e w' ⟨rfl, rfl⟩
  refine ⟨ret_int ?_, rfl⟩
  rw [Int.toNat_natCast]
  rcases Nat.eq_zero_or_pos x with h0 | h0
  · subst h0; simp [Lib.bitLen, Lib.bitLenAux, nbits]
  · obtain ⟨h2, h3, h4⟩ := Lib.bitLenAux_bounds 64 x (by simpa using h) (by omega)
    have h5 : Lib.bitLen x = Lib.bitLenAux 64 x := rfl
    rw [← h5] at h2 h3 h4
    obtain ⟨k, hk⟩ : ∃ k, Lib.bitLen x = k + 1 := ⟨Lib.bitLen x - 1, by omega⟩
    rw [hk] at h3 h4 ⊢
    rw [Nat.add_sub_cancel] at h3
    rw [nbits_uniq x k h3 h4]
theorem limbs_last (n : Nat) (h : n ≠ 0) : ∃ l x, limbs n = l ++ [x] ∧ 0 < x ∧ l.length + 1 = nl n := by
  have hne : limbs n ≠ [] := fun e => h ((limbs_nil n).1 e)
  obtain ⟨l, x, hlx⟩ : ∃ l x, limbs n = l ++ [x] := ⟨(limbs n).dropLast, (limbs n).getLast hne, (List.dropLast_concat_getLast hne).symm⟩
  refine ⟨l, x, hlx, ?_, ?_⟩
  · rcases Nat.eq_zero_or_pos x with h0 | h0
    · exfalso
      have h1 := trim_of n
      rw [hlx, h0, trim_zero] at h1
      have h2 := trim_le l
      rw [h1] at h2
      simp at h2
      omega
    · exact h0
  · unfold nl
    rw [hlx]
    simp
set_option maxHeartbeats 1000000 in
theorem bits_any (v : Value) (n : Nat) (w : World) (h : Nm w v n) :
    Calls Tryz.prog 79 #[v] w fun e w' => e = .returned (.int .i64 (nbits n : Int)) ∧ Below w.heap.size w w' := by
  go_enter Tryz.func79, Tryz.ntmps79
  go_wp2_with fail
  refine (normal_any v n _ h).mono ?_
  rintro e w1 ⟨a, c, rfl, hn, hb⟩
  have hs := hn.size
  by_cases h0 : n = 0
  · subst h0
    have hz : nl 0 = 0 := rfl
    rw [hz]
    go_wp2_with fail
    go_ret
    exact ⟨rfl, hb⟩
  · obtain ⟨l, x, hlx, hx, hll⟩ := limbs_last n h0
    have hlb := hn.1.lb
    rw [hlx] at hlb
    obtain ⟨b, off, rfl, hbw⟩ := lb_addr hlb (by simp)
    have hc := lb_cell hlb l.length (by simp)
    rw [digit_in (l ++ [x]) l.length x (by simp)] at hc
    have hx64 : x < 18446744073709551616 := hlb.lt x (by simp)
    have hnb : nbits n = 64 * l.length + nbits x := by
      have := nbits_top l x (fun y hy => hlb.lt y (by simp [hy])) hx
      rw [← hlx, val_limbs] at this
      exact this
    obtain ⟨m, hm⟩ : ∃ m, l.length = m := ⟨_, rfl⟩
    rw [hm] at hc hll hnb
    have HNB := Lib.hid hnb
    obtain ⟨k, hk⟩ : ∃ k, nl n = k := ⟨_, rfl⟩
    rw [hk] at hll hs ⊢
    have hkm : ((k : Nat) : Int) - 1 = (m : Int) := by omega
    have hnx : nbits x ≤ 64 := by
      rcases Nat.lt_or_ge 64 (nbits x) with h | h
      · have h1 := (nbits_spec x (by omega)).1
        have : 2 ^ 64 ≤ 2 ^ (nbits x - 1) := Nat.pow_le_pow_right (by decide) (by omega)
        omega
      · exact h
    have HLB := Lib.hid hlb
    clear hnb hlx hlb hn hm hk
    go_wp2_with (go_at_call 66; refine (len64_any x hx64 _).mono ?_; rintro e w' ⟨rfl, rfl⟩)
    go_ret
    rw [HNB.out]
    exact ⟨ret_int (by simp), hb⟩

/-- The value v is an integer, in whatever form. -/
def Zn (w : World) (v : Value) (b : Bool) (n : Nat) : Prop := ∃ m, v = .agg #[.bool b, m] ∧ Nm w m n
theorem Zn.below {w w' : World} {v : Value} {b : Bool} {n : Nat} (h : Zn w v b n) (hb : Below w.heap.size w w') : Zn w' v b n := by
  obtain ⟨m, e, hm⟩ := h
  exact ⟨m, e, hm.below hb⟩
theorem blk_new (w : World) (t : TypeId) (cs : List Value) (n : Nat) (h : w.heap.size = n) : Blk (w.alloc (.cells cs.toArray t)) n t cs := by
  subst h
  exact Blk.new w t cs
theorem zzero_any (m : Value) (n : Nat) (w : World) (h : Nm w m n) :
    Calls Tryz.prog 61 #[.agg #[m]] w fun e w' => e = .returned (.bool (decide (n = 0))) ∧ Below w.heap.size w w' := by
  have h0 := h
  obtain ⟨a, len, cap, rfl, -, -, -⟩ := h.slice
  go_enter Tryz.func61, Tryz.ntmps61
  go_wp2_with fail
  have hal := (Below.refl w.heap.size w).alloc (Nat.le_refl _) (.cells #[.slice a len cap] 79)
  refine (bits_any _ n _ (h0.below hal)).mono ?_
  rintro e w1 ⟨rfl, hb⟩
  have hz := nbits_zero n
  go_wp2_with fail
  go_ret
  refine ⟨ret_bool ?_, hal.trans (hb.mono (by simp))⟩
  by_cases h1 : n = 0
  · subst h1; rfl
  · simp [h1, hz]
theorem zof_any (b : Bool) (m : Value) (n : Nat) (w : World) (h : Nm w m n) :
    Calls Tryz.prog 39 #[.agg #[.bool b, m]] w fun e w' => e = .returned (.agg #[m, .bool (b && decide (n ≠ 0))]) ∧ Below w.heap.size w w' := by
  have h0 := h
  obtain ⟨a, len, cap, rfl, -, -, -⟩ := h.slice
  cases b with
  | false =>
    go_enter Tryz.func39, Tryz.ntmps39
    go_wp2_with fail
    exact bodyPost_ret (v := .agg #[.slice a len cap, .bool false]) (by simp [results, Tryz.results39, go_sem]) rfl ⟨by simp, ((((Below.refl w.heap.size w).alloc (Nat.le_refl _) _).alloc (by simp) _).alloc (by simp; omega) _)⟩
  | true =>
    go_enter Tryz.func39, Tryz.ntmps39
    go_wp2_with fail
    obtain ⟨W, hW⟩ : ∃ W, (((w.alloc (.cells #[.bool true, .slice a len cap] 47)).alloc (.cells #[.slice none 0 0, .bool false] 81)).alloc (.cells #[.slice a len cap, .bool true] 81)) = W := ⟨_, rfl⟩
    have hal : Below w.heap.size w W := by
      rw [← hW]
      exact (((Below.refl w.heap.size w).alloc (Nat.le_refl _) _).alloc (by simp) _).alloc (by simp; omega) _
    have hsz : W.heap.size = w.heap.size + 1 + 1 + 1 := by rw [← hW]; simp
    have k1 : Blk W (w.heap.size + 1 + 1) 81 [.slice a len cap, .bool true] := by
      rw [← hW]
      exact blk_new _ _ [_, _] _ (by simp)
    have k2 : Blk W (w.heap.size + 1) 81 [.slice none 0 0, .bool false] := by
      rw [← hW]
      exact (blk_new _ _ [_, _] _ (by simp)).alloc _
    rw [hW]
    clear hW
    refine (zzero_any _ n _ (h0.below hal)).mono ?_
    rintro e w1 ⟨rfl, hb⟩
    have k1' := k1.below hb k1.lt
    have k2' := k2.below hb k2.lt
    have c10 := k1'.cell 0
    have c11 := k1'.cell 1
    have c20 := k2'.cell 0
    have c21 := k2'.cell 1
    have f10 := k1'.frozen 0 (by simp)
    have f11 := k1'.frozen 1 (by simp)
    have f20 := k2'.frozen 0 (by simp)
    have f21 := k2'.frozen 1 (by simp)
    simp only [List.getElem?_cons_zero, List.getElem?_cons_succ] at c10 c11 c20 c21
    have hbE : Below w.heap.size w w1 := hal.trans (hb.mono hal.size)
    go_wp2_with fail
    refine bodyPost_ret (v := .agg #[.slice a len cap, .bool (!decide (n = 0))]) (by simp [results, Tryz.results39, go_sem, c20, c21]) rfl ⟨by simp, ?_⟩
    exact ((hbE.setCell (p := ⟨w.heap.size + 1 + 1, 1, none⟩) (show w.heap.size ≤ w.heap.size + 1 + 1 by omega) _).setCell (p := ⟨w.heap.size + 1, 0, none⟩) (show w.heap.size ≤ w.heap.size + 1 by omega) _).setCell (p := ⟨w.heap.size + 1, 1, none⟩) (show w.heap.size ≤ w.heap.size + 1 by omega) _

theorem nn_set {B : Nat} {W : World} {v : Value} {n : Nat} (h : NN B W v n) (b i : Nat) (u : Value) (hb : b < B) : NN B (W.setCell ⟨b, i, none⟩ u) v n := by
  refine ⟨⟨h.1.1.kept (row := some b) ⟨rfl, rfl, rfl, by simp [World.setCell], fun k _ hne => Below.heap_setCell W _ u k (by rintro rfl; exact hne rfl)⟩ ?_, h.1.2⟩, h.2⟩
  rcases h.1.1.2 with ⟨h2, _⟩ | ⟨g, cap, cur, h2, hg, _⟩
  · exact .inl (by rw [h2]; rfl)
  · exact .inr fun e => by
      rw [h2] at e
      have : b = g := by simpa [Value.ownBlock] using e.symm
      omega
theorem nn_alloc {B : Nat} {W : World} {v : Value} {n : Nat} (h : NN B W v n) (o : Obj) : NN B (W.alloc o) v n := ⟨⟨h.1.1.alloc _, h.1.2⟩, h.2⟩
def zeroZ : Value := .agg #[.bool false, .slice none 0 0]
set_option maxHeartbeats 1000000 in
theorem ztold_err (b : Bool) (a : Option Addr) (len cap : Nat) (k : Int) (w : World) (hk : 0 < k) (hk1 : k < 1000) :
    Calls Tryz.prog 36 #[.bool b, .slice a len cap, .int .i64 k] w fun e w' => e = .returned (.tuple #[zeroZ, .int .i64 k]) ∧ Below w.heap.size w w' := by
  go_enter Tryz.func36, Tryz.ntmps36
  go_wp2_with fail
  exact bodyPost_ret (v := .tuple #[zeroZ, .int .i64 k]) (by simp [results, Tryz.results36, go_sem, zeroZ]) rfl ⟨rfl, (Below.refl w.heap.size w).alloc (Nat.le_refl _) _⟩
set_option maxHeartbeats 1000000 in
theorem ztold_any (b : Bool) (m : Value) (n : Nat) (w : World) (h : Nm w m n) :
    Calls Tryz.prog 36 #[.bool b, m, .int .i64 0] w fun e w' =>
      ((n < Lim ∧ ∃ a c, e = .returned (.tuple #[.agg #[.bool (b && decide (n ≠ 0)), .slice a (nl n) c], .int .i64 0]) ∧ NN w.heap.size w' (.slice a (nl n) c) n) ∨
       (Lim ≤ n ∧ e = .returned (.tuple #[zeroZ, .int .i64 3]))) ∧ Below w.heap.size w w' := by
  have h0 := h
  obtain ⟨a, len, cap, rfl, -, -, -⟩ := h.slice
  go_enter Tryz.func36, Tryz.ntmps36
  go_wp2_with fail
  have hal := (Below.refl w.heap.size w).alloc (Nat.le_refl _) (.cells #[.bool false, .slice none 0 0] 47)
  have k1 := blk_new w 47 [.bool false, .slice none 0 0] _ rfl
  refine (norm_any _ n _ (h0.below hal)).mono ?_
  rintro e w1 ⟨ht, hb⟩
  have hbE : Below w.heap.size w w1 := hal.trans (hb.mono (by simp))
  have k1' := k1.below hb k1.lt
  have c10 := k1'.cell 0
  have c11 := k1'.cell 1
  have f10 := k1'.frozen 0 (by simp)
  have f11 := k1'.frozen 1 (by simp)
  simp only [List.getElem?_cons_zero, List.getElem?_cons_succ] at c10 c11
  rcases ht with ⟨hlt, a2, c2, rfl, hn⟩ | ⟨hge, rfl⟩
  · have hz := nl_zero n
    have hns := hn.size
    have hB2 := fun (u v : Value) => (hbE.setCell (p := ⟨w.heap.size, 0, none⟩) (Nat.le_refl _) u).setCell (p := ⟨w.heap.size, 1, none⟩) (Nat.le_refl _) v
    have hnn : ∀ (u v : Value), NN w.heap.size ((w1.setCell ⟨w.heap.size, 0, none⟩ u).setCell ⟨w.heap.size, 1, none⟩ v) (.slice a2 (nl n) c2) n := by
      intro u v
      have h1 : NN (w.heap.size + 1) w1 (.slice a2 (nl n) c2) n := by simpa using hn
      exact (nn_set (nn_set h1 w.heap.size 0 u (by omega)) w.heap.size 1 v (by omega)).ge (by omega)
    cases b with
    | false =>
      go_wp2_with fail
      exact bodyPost_ret (v := .tuple #[.agg #[.bool false, .slice a2 (nl n) c2], .int .i64 0]) (by simp [results, Tryz.results36, go_sem, c10, c11]) rfl ⟨.inl ⟨hlt, a2, c2, by simp, hnn _ _⟩, hB2 _ _⟩
    | true =>
      go_wp2_with fail
      refine bodyPost_ret (v := .tuple #[.agg #[.bool (decide (0 < nl n)), .slice a2 (nl n) c2], .int .i64 0]) (by simp [results, Tryz.results36, go_sem, c10, c11]) rfl ⟨.inl ⟨hlt, a2, c2, ?_, hnn _ _⟩, hB2 _ _⟩
      have hd : decide (0 < nl n) = decide (n ≠ 0) := by rw [decide_eq_decide]; omega
      rw [hd]
      rfl
  · go_wp2_with fail
    refine bodyPost_ret (v := .tuple #[zeroZ, .int .i64 3]) (by simp [results, Tryz.results36, go_sem, zeroZ, c10, c11]) rfl ⟨.inr ⟨hge, rfl⟩, ?_⟩
    exact (hbE.setCell (p := ⟨w.heap.size, 0, none⟩) (Nat.le_refl _) _).setCell (p := ⟨w.heap.size, 1, none⟩) (Nat.le_refl _) _

/-- The digits of an integer. -/
def zdecs (b : Bool) (n : Nat) : List UInt8 := if b && decide (n ≠ 0) then 45 :: decs n else decs n
set_option maxHeartbeats 1000000 in
theorem zof_small (x : Int) (w : World) (h0 : -9223372036854775808 ≤ x) (h1 : x ≤ 9223372036854775807) :
    Calls Tryz.prog 16 #[.int .i64 x] w fun e w' => ∃ a c, e = .returned (.agg #[.bool (decide (x < 0)), .slice a (nl x.natAbs) c]) ∧ NN w.heap.size w' (.slice a (nl x.natAbs) c) x.natAbs ∧ Below w.heap.size w w' := by
  obtain ⟨y, hy⟩ : ∃ y, y = x.natAbs := ⟨_, rfl⟩
  have hy64 : y < 18446744073709551616 := by omega
  have hyL : y < Lim := lim_small y 1 (by decide) (by simpa using hy64)
  have hw1 : x < 0 → IntKind.u64.wrap (-IntKind.u64.wrap x) = (y : Int) := fun h => by
    rw [IntKind.wrap_u64, IntKind.wrap_u64]; omega
  have hw2 : ¬ x < 0 → x = (y : Int) := fun h => by omega
  have hdec : decide (x < 0) = (decide (x < 0) && decide (y ≠ 0)) := by
    by_cases h : x < 0
    · have : y ≠ 0 := by omega
      simp [h, this]
    · simp [h]
  rw [← hy]
  have HD := Lib.hid hdec
  clear hdec hy
  have hal := (Below.refl w.heap.size w).alloc (Nat.le_refl _) (.cells #[.bool false, .slice none 0 0] 47)
  have k1 := blk_new w 47 [.bool false, .slice none 0 0] _ rfl
  by_cases hx : x < 0
  all_goals
    first
      | have hw := hw1 hx
      | have hw := hw2 hx
    clear hw1 hw2
    go_enter Tryz.func16, Tryz.ntmps16
    go_wp2_with fail
    first
      | rw [hw]
        refine (of_any y _ hy64).mono ?_
      | refine (of_any y _ hy64).mono ?_
    rintro e w1 ⟨a1, c1, rfl, hn1, hb1⟩
    go_wp2_with fail
    refine (ztold_any _ _ y _ hn1.nm).mono ?_
    rintro e w2 ⟨⟨-, a2, c2, rfl, hn2⟩ | ⟨hge, rfl⟩, hb2⟩
    · have hB2 : Below w.heap.size w w2 := hal.trans ((hb1.mono (by simp)).trans (hb2.mono (by have := hb1.size; simp at this; omega)))
      have k2 := (k1.below hb1 k1.lt).below hb2 ((k1.below hb1 k1.lt).lt)
      have k3 := blk_new w2 47 [.bool false, .slice none 0 0] _ rfl
      have c20 := k2.cell 0
      have c21 := k2.cell 1
      have f20 := k2.frozen 0 (by simp)
      have f21 := k2.frozen 1 (by simp)
      have hlt2 := k2.lt
      simp only [List.getElem?_cons_zero, List.getElem?_cons_succ] at c20 c21
      have hnn : ∀ (u v : Value) (o : Obj), NN w.heap.size (((w2.setCell ⟨w.heap.size, 0, none⟩ u).setCell ⟨w.heap.size, 1, none⟩ v).alloc o) (.slice a2 (nl y) c2) y := fun u v o =>
        (nn_alloc (nn_set (nn_set (hn2.ge (C := w.heap.size + 1) (by have := hb1.size; simp at this; omega)) w.heap.size 0 u (by omega)) w.heap.size 1 v (by omega)) o).ge (by omega)
      have hbb : ∀ (u v : Value) (o : Obj), Below w.heap.size w (((w2.setCell ⟨w.heap.size, 0, none⟩ u).setCell ⟨w.heap.size, 1, none⟩ v).alloc o) := fun u v o =>
        ((hB2.setCell (p := ⟨w.heap.size, 0, none⟩) (Nat.le_refl _) u).setCell (p := ⟨w.heap.size, 1, none⟩) (Nat.le_refl _) v).alloc (by simp [World.setCell]; omega) o
      have hcc : ∀ (u v : Value) (o : Obj), (((w2.setCell ⟨w.heap.size, 0, none⟩ u).setCell ⟨w.heap.size, 1, none⟩ v).alloc o).cell? ⟨w.heap.size, 0, none⟩ = some u ∧ (((w2.setCell ⟨w.heap.size, 0, none⟩ u).setCell ⟨w.heap.size, 1, none⟩ v).alloc o).cell? ⟨w.heap.size, 1, none⟩ = some v := fun u v o => by
        have hk := ((k2.set_ 0 u).set_ 1 v).alloc o
        exact ⟨hk.cell 0, hk.cell 1⟩
      go_wp2_with fail
      first
        | (have e1 : (!decide (y = 0)) = decide (x < 0) := by
            have := HD.out
            simp [hx] at this ⊢
            exact this
           exact bodyPost_ret (v := .agg #[.bool (!decide (y = 0)), .slice a2 (nl y) c2]) (by simp [results, Tryz.results16, go_sem, (hcc _ _ _).1, (hcc _ _ _).2]) rfl ⟨a2, c2, by rw [e1], hnn _ _ _, hbb _ _ _⟩)
        | (have e1 : (decide ((y : Int) < 0) && !decide (y = 0)) = decide (x < 0) := by
            have h1 : ¬ ((y : Int) < 0) := by omega
            simp [hx, h1]
           exact bodyPost_ret (v := .agg #[.bool (decide ((y : Int) < 0) && !decide (y = 0)), .slice a2 (nl y) c2]) (by simp [results, Tryz.results16, go_sem, (hcc _ _ _).1, (hcc _ _ _).2]) rfl ⟨a2, c2, by rw [e1], hnn _ _ _, hbb _ _ _⟩)
    · omega

theorem num_neg (w : World) (a : Option Addr) (len cap : Nat) (b : Bool) : (Instr.field 81 (.agg #[.slice a len cap, .bool b]) 1).run Tryz.prog w = .ok (.bool b) w := by kernel_rfl
set_option maxRecDepth 100000 in
set_option maxHeartbeats 1000000 in
theorem ztext_any (b : Bool) (m : Value) (n : Nat) (w : World) (h : Nm w m n) (hn : n < Lim) :
    Calls Tryz.prog 17 #[.agg #[.bool b, m]] w fun e w' => e = .returned (.string ⟨(zdecs b n).toArray⟩) ∧ Below w.heap.size w w' := by
  have h0 := h
  obtain ⟨a, len, cap, rfl, -, -, -⟩ := h.slice
  have hal := (Below.refl w.heap.size w).alloc (Nat.le_refl _) (.cells #[.bool b, .slice a len cap] 47)
  have k1 := blk_new w 47 [.bool b, .slice a len cap] _ rfl
  go_enter Tryz.func17, Tryz.ntmps17
  go_wp2_with fail
  obtain ⟨S, hS⟩ : ∃ S : ByteArray, S = ⟨(decs n).toArray⟩ := ⟨_, rfl⟩
  have htx := text_ok _ n _ (h0.below hal) hn
  rw [← hS] at htx
  refine htx.mono ?_
  rintro e w1 ⟨rfl, hb1⟩
  have hB1 : Below w.heap.size w w1 := hal.trans (hb1.mono (by simp))
  have k2 := k1.below hb1 k1.lt
  have c20 := k2.cell 0
  have c21 := k2.cell 1
  have hne : S.toList.isEmpty = false := by
    rw [ByteArray.toList_eq, hS]
    exact List.isEmpty_eq_false_iff.2 (by simpa using decs_ne n)
  simp only [List.getElem?_cons_zero, List.getElem?_cons_succ] at c20 c21
  have HS := Lib.hid hS
  clear hS htx
  go_wp2_with fail
  refine (zof_any b _ n _ (h0.below hB1)).mono ?_
  rintro e w2 ⟨rfl, hb2⟩
  have hB2 := hB1.trans (hb2.mono hB1.size)
  have hsz : S.size ≤ 40960 := by
    have h1 := dig_bound n hn
    rw [HS.out]
    show (decs n).toArray.size ≤ 40960
    rw [List.size_toArray]
    unfold decs
    by_cases h : n = 0
    · rw [if_pos h]; decide
    · rw [if_neg h, List.length_reverse]; exact h1
  have hnum := num_neg w2 a len cap
  cases hneg : (b && decide (n ≠ 0)) with
  | true =>
    have hneg2 : (b && !decide (n = 0)) = true := by simpa using hneg
    go_wp2_with fail
    go_ret
    refine ⟨?_, hB2⟩
    have : zdecs b n = 45 :: decs n := by unfold zdecs; rw [hneg]; rfl
    rw [this, HS.out]
    refine ret_str ?_
    apply ByteArray.ext
    simp
  | false =>
    have hneg2 : (b && !decide (n = 0)) = false := by
      rw [← hneg]
      congr 1
      by_cases h : n = 0 <;> simp [h]
    go_wp2_with fail
    go_ret
    refine ⟨?_, hB2⟩
    have : zdecs b n = decs n := by unfold zdecs; rw [hneg]; rfl
    rw [this, ← HS.out]
    rfl

/-- What zint.Parse tells of a text. -/
def ZParsed (B : Nat) (w : World) (l : List UInt8) (e : Ending) : Prop :=
  (40000 < (Lib.trimPrefix l [45]).length ∧ e = .returned (.tuple #[zeroZ, .int .i64 3])) ∨
  ((Lib.trimPrefix l [45]).length ≤ 40000 ∧ (Lib.trimPrefix l [45] = [] ∨ ∃ c ∈ Lib.trimPrefix l [45], isDig c = false) ∧ e = .returned (.tuple #[zeroZ, .int .i64 5])) ∨
  ((Lib.trimPrefix l [45]).length ≤ 40000 ∧ Lib.trimPrefix l [45] ≠ [] ∧ (∀ c ∈ Lib.trimPrefix l [45], isDig c = true) ∧
    ((parseL (Lib.trimPrefix l [45]) < Lim ∧ ∃ a c, e = .returned (.tuple #[.agg #[.bool (Lib.hasPrefix l [45] && decide (parseL (Lib.trimPrefix l [45]) ≠ 0)), .slice a (nl (parseL (Lib.trimPrefix l [45]))) c], .int .i64 0]) ∧ NN B w (.slice a (nl (parseL (Lib.trimPrefix l [45]))) c) (parseL (Lib.trimPrefix l [45]))) ∨
     (Lim ≤ parseL (Lib.trimPrefix l [45]) ∧ e = .returned (.tuple #[zeroZ, .int .i64 3]))))
theorem trim_len (l p : List UInt8) : (Lib.trimPrefix l p).length ≤ l.length := by
  unfold Lib.trimPrefix
  split
  · simp
  · exact Nat.le_refl _
set_option maxRecDepth 100000 in
set_option maxHeartbeats 1000000 in
theorem zparse_any (s : ByteArray) (w : World) (hs : s.size ≤ maxLen) :
    Calls Tryz.prog 50 #[.string s] w fun e w' => ZParsed w.heap.size w' s.data.toList e ∧ Below w.heap.size w w' := by
  have htl := trim_len s.data.toList [45]
  unfold ZParsed
  have hcut := Tryz.strings_CutPrefix s ⟨#[45]⟩
  simp only [] at hcut
  generalize Lib.trimPrefix s.data.toList [45] = d at *
  generalize Lib.hasPrefix s.data.toList [45] = neg at *
  have hds : (⟨d.toArray⟩ : ByteArray).size ≤ maxLen := by
    show d.toArray.size ≤ maxLen
    rw [List.size_toArray]
    have : s.data.toList.length = s.size := by simp
    omega
  have hal := (Below.refl w.heap.size w).alloc (Nat.le_refl _) (.cells #[.bool false, .slice none 0 0] 47)
  have k1 := blk_new w 47 [.bool false, .slice none 0 0] _ rfl
  go_enter Tryz.func50, Tryz.ntmps50
  go_wp2_with fail
  refine (hcut _).mono ?_
  rintro e w1 ⟨rfl, rfl⟩
  go_wp2_with fail
  refine (parse_any ⟨d.toArray⟩ _ hds).mono ?_
  rintro e w2 ⟨hp, hb2⟩
  have hB2 : Below w.heap.size w w2 := hal.trans (hb2.mono (by simp))
  have k2 := k1.below hb2 k1.lt
  unfold Parsed at hp
  simp only [] at hp
  have hcc : ∀ (w3 : World), Below w2.heap.size w2 w3 → ∀ u v : Value, ((w3.setCell ⟨w.heap.size, 0, none⟩ u).setCell ⟨w.heap.size, 1, none⟩ v).cell? ⟨w.heap.size, 0, none⟩ = some u ∧ ((w3.setCell ⟨w.heap.size, 0, none⟩ u).setCell ⟨w.heap.size, 1, none⟩ v).cell? ⟨w.heap.size, 1, none⟩ = some v ∧
      Below w.heap.size w ((w3.setCell ⟨w.heap.size, 0, none⟩ u).setCell ⟨w.heap.size, 1, none⟩ v) := fun w3 h u v => by
    have hk := ((k2.below h k2.lt).set_ 0 u).set_ 1 v
    exact ⟨hk.cell 0, hk.cell 1, ((hB2.trans (h.mono hB2.size)).setCell (p := ⟨w.heap.size, 0, none⟩) (Nat.le_refl _) u).setCell (p := ⟨w.heap.size, 1, none⟩) (Nat.le_refl _) v⟩
  have hc3 : ∀ (w3 : World), Below w2.heap.size w2 w3 → w3.cell? ⟨w.heap.size, 0, none⟩ = some (.bool false) ∧ w3.cell? ⟨w.heap.size, 1, none⟩ = some (.slice none 0 0) ∧ w3.frozen? ⟨w.heap.size, 0, none⟩ = false ∧ w3.frozen? ⟨w.heap.size, 1, none⟩ = false := fun w3 h => by
    have hk := k2.below h k2.lt
    exact ⟨hk.cell 0, hk.cell 1, hk.frozen 0 (by simp), hk.frozen 1 (by simp)⟩
  have HCC := Lib.hid (And.intro hcc hc3)
  clear hcc hc3 hcut k1
  rcases hp with ⟨h1, rfl⟩ | ⟨h1, h2, rfl⟩ | ⟨h1, h2, h3, ⟨h4, a, c, rfl, hn⟩ | ⟨h4, rfl⟩⟩
  · have HG := Lib.hid h1
    clear h1
    go_wp2_with fail
    refine (ztold_err neg none 0 0 3 w2 (by decide) (by decide)).mono ?_
    rintro e w3 ⟨rfl, hb3⟩
    obtain ⟨c0, c1, f0, f1⟩ := HCC.out.2 w3 hb3
    unfold zeroZ
    go_wp2_with fail
    exact bodyPost_ret (v := .tuple #[zeroZ, .int .i64 3]) (by simp [results, Tryz.results50, go_sem, zeroZ, (HCC.out.1 w3 hb3 _ _).1, (HCC.out.1 w3 hb3 _ _).2.1]) rfl ⟨.inl ⟨HG.out, rfl⟩, (HCC.out.1 w3 hb3 _ _).2.2⟩
  · have HG := Lib.hid (And.intro h1 h2)
    clear h1 h2
    go_wp2_with fail
    refine (ztold_err neg none 0 0 5 w2 (by decide) (by decide)).mono ?_
    rintro e w3 ⟨rfl, hb3⟩
    obtain ⟨c0, c1, f0, f1⟩ := HCC.out.2 w3 hb3
    unfold zeroZ
    go_wp2_with fail
    exact bodyPost_ret (v := .tuple #[zeroZ, .int .i64 5]) (by simp [results, Tryz.results50, go_sem, zeroZ, (HCC.out.1 w3 hb3 _ _).1, (HCC.out.1 w3 hb3 _ _).2.1]) rfl ⟨.inr (.inl ⟨HG.out.1, HG.out.2, rfl⟩), (HCC.out.1 w3 hb3 _ _).2.2⟩
  · have HG := Lib.hid (And.intro h1 (And.intro h2 (And.intro h3 h4)))
    clear h1 h2 h3 h4
    have hns := hn.size
    go_wp2_with fail
    refine (ztold_any neg _ _ w2 hn.nm).mono ?_
    rintro e w3 ⟨⟨h5, a2, c2, rfl, hn2⟩ | ⟨h5, -⟩, hb3⟩
    · have H5 := Lib.hid h5
      clear h5
      obtain ⟨c0, c1, f0, f1⟩ := HCC.out.2 w3 hb3
      have hlt2 := k2.lt
      have hnn : ∀ (u v : Value), NN w.heap.size ((w3.setCell ⟨w.heap.size, 0, none⟩ u).setCell ⟨w.heap.size, 1, none⟩ v) (.slice a2 (nl (parseL d)) c2) (parseL d) := fun u v =>
        (nn_set (nn_set (hn2.ge (C := w.heap.size + 1) (by omega)) w.heap.size 0 u (by omega)) w.heap.size 1 v (by omega)).ge (by omega)
      obtain ⟨bb, hbb⟩ : ∃ bb, (neg && decide (parseL d ≠ 0)) = bb := ⟨_, rfl⟩
      rw [hbb]
      have HBB := Lib.hid hbb
      clear hbb
      go_wp2_with fail
      refine bodyPost_ret (v := .tuple #[.agg #[.bool bb, .slice a2 (nl (parseL d)) c2], .int .i64 0]) (by simp [results, Tryz.results50, go_sem, (HCC.out.1 w3 hb3 _ _).1, (HCC.out.1 w3 hb3 _ _).2.1]) rfl ⟨.inr (.inr ⟨HG.out.1, HG.out.2.1, HG.out.2.2.1, .inl ⟨HG.out.2.2.2, a2, c2, ?_, hnn _ _⟩⟩), (HCC.out.1 w3 hb3 _ _).2.2⟩
      rw [HBB.out]
    · have := HG.out.2.2.2
      omega
  · have HG := Lib.hid (And.intro h1 (And.intro h2 (And.intro h3 h4)))
    clear h1 h2 h3 h4
    go_wp2_with fail
    refine (ztold_err neg none 0 0 3 w2 (by decide) (by decide)).mono ?_
    rintro e w3 ⟨rfl, hb3⟩
    obtain ⟨c0, c1, f0, f1⟩ := HCC.out.2 w3 hb3
    unfold zeroZ
    go_wp2_with fail
    exact bodyPost_ret (v := .tuple #[zeroZ, .int .i64 3]) (by simp [results, Tryz.results50, go_sem, zeroZ, (HCC.out.1 w3 hb3 _ _).1, (HCC.out.1 w3 hb3 _ _).2.1]) rfl ⟨.inr (.inr ⟨HG.out.1, HG.out.2.1, HG.out.2.2.1, .inr ⟨HG.out.2.2.2, rfl⟩⟩), (HCC.out.1 w3 hb3 _ _).2.2⟩
end Go.Proofs.YtpnllalefpkcjaaGreatDoor.Nat_
