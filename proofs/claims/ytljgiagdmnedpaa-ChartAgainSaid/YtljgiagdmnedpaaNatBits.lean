/-
nat.Bits: how many bits a number has.
-/
import Derived.Test.YtljgiagdmnedpaaNatMulW
import Derived.Test.YtljgiagdmnedpaaShelf
import Derived.Lib.ItoaNum
namespace Go.Proofs.Ytljgiagdmnedpaa.Nat_
open Go.RowKit

theorem nn_set {B : Nat} {W : World} {v : Value} {n : Nat} (h : NN B W v n) (b i : Nat) (u : Value) (hb : b < B) : NN B (W.setCell ⟨b, i, none⟩ u) v n := by
  refine ⟨⟨h.1.1.kept (row := some b) ⟨rfl, rfl, rfl, by simp [World.setCell], fun k _ hne => Below.heap_setCell W _ u k (by rintro rfl; exact hne rfl)⟩ ?_, h.1.2⟩, h.2⟩
  rcases h.1.1.2 with ⟨h2, _⟩ | ⟨g, cap, cur, h2, hg, _⟩
  · exact .inl (by rw [h2]; rfl)
  · exact .inr fun e => by
      rw [h2] at e
      have : b = g := by simpa [Value.ownBlock] using e.symm
      omega
theorem nn_alloc {B : Nat} {W : World} {v : Value} {n : Nat} (h : NN B W v n) (o : Obj) : NN B (W.alloc o) v n := ⟨⟨h.1.1.alloc _, h.1.2⟩, h.2⟩
theorem nn_set_ne {B : Nat} {W : World} {v : Value} {n : Nat} (h : NN B W v n) (b i : Nat) (u : Value) (hb : ∀ g, v.ownBlock = some g → g ≠ b) : NN B (W.setCell ⟨b, i, none⟩ u) v n := by
  refine ⟨⟨h.1.1.kept (row := some b) ⟨rfl, rfl, rfl, by simp [World.setCell], fun k _ hne => Below.heap_setCell W _ u k (by rintro rfl; exact hne rfl)⟩ ?_, h.1.2⟩, h.2⟩
  rcases h.1.1.2 with ⟨h2, _⟩ | ⟨g, cap, cur, h2, hg, _⟩
  · exact .inl (by rw [h2]; rfl)
  · refine .inr ?_
    intro e
    have h3 : v.ownBlock = some g := by rw [h2]; rfl
    rw [h3] at e
    injection e with e
    exact hb g h3 e
/-- How many bits a number has. -/
def nbits (n : Nat) : Nat := if n = 0 then 0 else Nat.log2 n + 1
theorem nbits_spec (n : Nat) (h : n ≠ 0) : 2 ^ (nbits n - 1) ≤ n ∧ n < 2 ^ nbits n ∧ 1 ≤ nbits n := by
  unfold nbits
  rw [if_neg h]
  exact ⟨Nat.log2_self_le h, Nat.lt_log2_self, by omega⟩
theorem nbits_uniq (n k : Nat) (h1 : 2 ^ k ≤ n) (h2 : n < 2 ^ (k + 1)) : nbits n = k + 1 := by
  have hp : 0 < 2 ^ k := Nat.pow_pos (by decide)
  have h0 : n ≠ 0 := by omega
  unfold nbits
  rw [if_neg h0]
  have h3 : Nat.log2 n < k + 1 := (Nat.log2_lt h0).2 h2
  have h4 : k ≤ Nat.log2 n := (Nat.le_log2 h0).2 h1
  omega
theorem nbits_zero (n : Nat) : nbits n = 0 ↔ n = 0 := by
  constructor
  · intro h
    rcases Nat.eq_zero_or_pos n with h0 | h0
    · exact h0
    · have := (nbits_spec n (by omega)).2.2
      omega
  · rintro rfl; rfl
theorem val_top : ∀ (l : List Nat) (x : Nat), val (l ++ [x]) = val l + 18446744073709551616 ^ l.length * x := val_snoc
/-- The bits of a number by its top limb. -/
theorem nbits_top (l : List Nat) (x : Nat) (hl : ∀ y ∈ l, y < 18446744073709551616) (hx : 0 < x) : nbits (val (l ++ [x])) = 64 * l.length + nbits x := by
  obtain ⟨h1, h2, h3⟩ := nbits_spec x (by omega)
  have hv := val_lt l hl
  have hp : (18446744073709551616 : Nat) ^ l.length = 2 ^ (64 * l.length) := by rw [Nat.pow_mul]
  obtain ⟨k, hk⟩ : ∃ k, nbits x = k + 1 := ⟨nbits x - 1, by omega⟩
  rw [hk] at h1 h2 ⊢
  rw [Nat.add_sub_cancel] at h1
  rw [← Nat.add_assoc]
  refine nbits_uniq _ _ ?_ ?_
  · rw [val_snoc, hp, Nat.pow_add]
    have := Nat.mul_le_mul_left (2 ^ (64 * l.length)) h1
    omega
  · rw [val_snoc, Nat.add_assoc, Nat.pow_add, hp] 
    rw [hp] at hv
    have := Nat.mul_le_mul_left (2 ^ (64 * l.length)) (show x + 1 ≤ 2 ^ (k + 1) from h2)
    rw [Nat.mul_add, Nat.mul_one] at this
    omega
theorem len64_any (x : Nat) (h : x < 18446744073709551616) (w : World) :
    Calls Try.prog 71 #[.int .u64 (x : Int)] w fun e w' => e = .returned (.int .i64 (nbits x : Int)) ∧ w' = w := by
  refine (Try.bits_Len64 (x : Int) w (by omega) (by omega)).mono ?_
  rintro e w' ⟨rfl, rfl⟩
  refine ⟨ret_int ?_, rfl⟩
  rw [Int.toNat_natCast]
  rcases Nat.eq_zero_or_pos x with h0 | h0
  · subst h0; simp [Lib.bitLen, Lib.bitLenAux, nbits]
  · obtain ⟨h2, h3, h4⟩ := Lib.bitLenAux_bounds 64 x (by simpa using h) (by omega)
    have h5 : Lib.bitLen x = Lib.bitLenAux 64 x := rfl
    rw [← h5] at h2 h3 h4
    obtain ⟨k, hk⟩ : ∃ k, Lib.bitLen x = k + 1 := ⟨Lib.bitLen x - 1, by omega⟩
    rw [hk] at h3 h4 ⊢
    rw [Nat.add_sub_cancel] at h3
    rw [nbits_uniq x k h3 h4]
theorem limbs_last (n : Nat) (h : n ≠ 0) : ∃ l x, limbs n = l ++ [x] ∧ 0 < x ∧ l.length + 1 = nl n := by
  have hne : limbs n ≠ [] := fun e => h ((limbs_nil n).1 e)
  obtain ⟨l, x, hlx⟩ : ∃ l x, limbs n = l ++ [x] := ⟨(limbs n).dropLast, (limbs n).getLast hne, (List.dropLast_concat_getLast hne).symm⟩
  refine ⟨l, x, hlx, ?_, ?_⟩
  · rcases Nat.eq_zero_or_pos x with h0 | h0
    · exfalso
      have h1 := trim_of n
      rw [hlx, h0, trim_zero] at h1
      have h2 := trim_le l
      rw [h1] at h2
      simp at h2
      omega
    · exact h0
  · unfold nl
    rw [hlx]
    simp
set_option maxHeartbeats 1000000 in
theorem bits_any (v : Value) (n : Nat) (w : World) (h : Nm w v n) :
    Calls Try.prog 69 #[v] w fun e w' => e = .returned (.int .i64 (nbits n : Int)) ∧ Below w.heap.size w w' := by
  go_enter Try.func69, Try.ntmps69
  go_wp2_with fail
  refine (normal_any v n _ h).mono ?_
  rintro e w1 ⟨a, c, rfl, hn, hb⟩
  have hs := hn.size
  by_cases h0 : n = 0
  · subst h0
    have hz : nl 0 = 0 := rfl
    rw [hz]
    go_wp2_with fail
    go_ret
    exact ⟨rfl, hb⟩
  · obtain ⟨l, x, hlx, hx, hll⟩ := limbs_last n h0
    have hlb := hn.1.lb
    rw [hlx] at hlb
    obtain ⟨b, off, rfl, hbw⟩ := lb_addr hlb (by simp)
    have hc := lb_cell hlb l.length (by simp)
    rw [digit_in (l ++ [x]) l.length x (by simp)] at hc
    have hx64 : x < 18446744073709551616 := hlb.lt x (by simp)
    have hnb : nbits n = 64 * l.length + nbits x := by
      have := nbits_top l x (fun y hy => hlb.lt y (by simp [hy])) hx
      rw [← hlx, val_limbs] at this
      exact this
    obtain ⟨m, hm⟩ : ∃ m, l.length = m := ⟨_, rfl⟩
    rw [hm] at hc hll hnb
    have HNB := Lib.hid hnb
    obtain ⟨k, hk⟩ : ∃ k, nl n = k := ⟨_, rfl⟩
    rw [hk] at hll hs ⊢
    have hkm : ((k : Nat) : Int) - 1 = (m : Int) := by omega
    have hnx : nbits x ≤ 64 := by
      rcases Nat.lt_or_ge 64 (nbits x) with h | h
      · have h1 := (nbits_spec x (by omega)).1
        have : 2 ^ 64 ≤ 2 ^ (nbits x - 1) := Nat.pow_le_pow_right (by decide) (by omega)
        omega
      · exact h
    have HLB := Lib.hid hlb
    clear hnb hlx hlb hn hm hk
    go_wp2_with (go_at_call 71; refine (len64_any x hx64 _).mono ?_; rintro e w' ⟨rfl, rfl⟩)
    go_ret
    rw [HNB.out]
    exact ⟨ret_int (by simp), hb⟩
end Go.Proofs.Ytljgiagdmnedpaa.Nat_
