/-
nat.normal, told, Norm, Of, Bits: a number without limbs on top that are 0.
-/
import Derived.Test.YtljgiagdmnedpaaNatOne
namespace Go.Proofs.Ytljgiagdmnedpaa.Nat_
open Go.RowKit

/-- Numbers of at most 2048 limbs: those below this one. -/
@[irreducible] def Lim : Nat := 18446744073709551616 ^ 2048
theorem lim_iff (n : Nat) : (limbs n).length ≤ 2048 ↔ n < Lim := by unfold Lim; exact limbs_len 2048 n
theorem lim_small (n k : Nat) (hk : k ≤ 2048) (h : n < 18446744073709551616 ^ k) : n < Lim := (lim_iff n).1 (Nat.le_trans ((limbs_len k n).2 h) hk)
def nl (n : Nat) : Nat := (limbs n).length
theorem nl_zero (n : Nat) : nl n = 0 ↔ n = 0 := by unfold nl; rw [List.length_eq_zero_iff, limbs_nil]
/-- The value v is a slice of limbs that tell the number n. -/
def Nm (w : World) (v : Value) (n : Nat) : Prop := ∃ l, Lb w v l ∧ val l = n ∧ l.length ≤ 1000000
/-- The value v is the number n in its normal form, in memory made from block B on. -/
def NN (B : Nat) (w : World) (v : Value) (n : Nat) : Prop := Ow B w v (limbs n) ∧ nl n ≤ 1000000
theorem NN.nm {B : Nat} {w : World} {v : Value} {n : Nat} (h : NN B w v n) : Nm w v n := ⟨limbs n, h.1.lb, val_limbs n, h.2⟩
theorem Nm.below {w w' : World} {v : Value} {n : Nat} (h : Nm w v n) (hb : Below w.heap.size w w') : Nm w' v n := by
  obtain ⟨l, hl, e⟩ := h
  exact ⟨l, hl.below hb, e⟩
theorem NN.below {B : Nat} {w w' : World} {v : Value} {n : Nat} (h : NN B w v n) (hb : Below w.heap.size w w') : NN B w' v n := ⟨Ow.below h.1 hb, h.2⟩
theorem NN.ge {B C : Nat} {w : World} {v : Value} {n : Nat} (h : NN B w v n) (hb : C ≤ B) : NN C w v n := ⟨Ow.ge h.1 hb, h.2⟩
theorem Nm.nil (w : World) : Nm w (.slice none 0 0) 0 := ⟨[], Lb.nil w, rfl, by simp⟩
theorem NN.nil (B : Nat) (w : World) : NN B w (.slice none 0 0) 0 := ⟨Ow.nil B w, by decide⟩
theorem Nm.slice {w : World} {v : Value} {n : Nat} (h : Nm w v n) : ∃ a len cap, v = .slice a len cap ∧ len ≤ cap ∧ cap ≤ maxLen ∧ len ≤ 1000000 := by
  obtain ⟨l, ⟨a, len, cap, e, h1, h2, h3, h0, -⟩, -, h4⟩ := h
  exact ⟨a, len, cap, e, h2, h3, by omega⟩
theorem NN.slice {B : Nat} {w : World} {v : Value} {n : Nat} (h : NN B w v n) : ∃ a cap, v = .slice a (nl n) cap := Ow.slice h.1
theorem NN.size {B : Nat} {w : World} {v : Value} {n : Nat} (h : NN B w v n) : nl n ≤ 1000000 := h.2

set_option maxHeartbeats 1000000 in
theorem normal_lb (v : Value) (l : List Nat) (w : World) (h : Lb w v l) :
    Calls Try.prog 39 #[v] w fun e w' => ∃ a c, e = .returned (.slice a (nl (val l)) c) ∧ Ow w.heap.size w' (.slice a (nl (val l)) c) (limbs (val l)) ∧ Below w.heap.size w w' := by
  have h' := h
  obtain ⟨a, len, cap, rfl, h1, h2, h3, h0, h4, h5⟩ := h
  unfold maxLen at h3
  have ht := trim_limbs l h4
  have A : Go.Aside (∀ x ∈ l, x < 18446744073709551616) := h4
  clear h4
  go_enter Try.func39, Try.ntmps39
  go_wp2
  go_loop [3] (fun i => ∃ j : Nat, j ≤ len ∧ i = .int .i64 (j : Int) ∧ Hid (trim (l.take j) = limbs (val l))) (fun i => (intOf i).toNat)
  case atStart => exact ⟨len, Nat.le_refl _, rfl, by show _ = _; rw [List.take_of_length_le (by omega), ht]⟩
  case round =>
    obtain ⟨j, hj, rfl, HT⟩ := hrel
    cases j with
    | zero =>
      have hl : (l.take 0).length = 0 := rfl
      have hT : limbs (val l) = [] := by rw [← HT.out]; rfl
      have hz : val l = 0 := (limbs_nil _).1 hT
      go_wp2_with fail
      refine (clone_any _ _ _ [] _ ⟨a, 0, 0, rfl, rfl, Nat.le_refl _, Nat.zero_le _, by decide, by simp, fun h => absurd h (by decide)⟩).mono ?_
      rintro e w' ⟨v, rfl, ho, hb⟩
      go_wp2
      go_ret
      obtain ⟨a', c', rfl⟩ := ho.slice
      refine ⟨a', c', ?_, ?_, hb⟩
      · rw [hz]; rfl
      · rw [hz]; exact ho
    | succ k =>
      obtain ⟨b, off, ha, hbw, hc⟩ := h5 (by omega)
      subst ha
      have hk : k < l.length := by omega
      have hck := hc k _ (List.getElem?_eq_getElem hk)
      unfold limbV at hck
      by_cases hx : l[k] = 0
      · rw [hx] at hck
        go_wp2
        go_round
        case rel => exact ⟨k, by omega, by simp, by show _ = _; rw [← HT.out]; exact (trim_take l k hk (by rw [List.getElem?_eq_getElem hk, hx])).symm⟩
        case measure => simp [intOf]
      · have hs := trim_stop l k l[k] hk (List.getElem?_eq_getElem hk) hx
        have hle : k + 1 ≤ len := hj
        have hlen : (limbs (val l)).length = k + 1 := by
          rw [← HT.out, hs, List.length_take]; omega
        have hlt := A.out l[k] (List.getElem_mem hk)
        generalize l[k] = x at *
        go_wp2_with fail
        refine (clone_any _ _ _ (l.take (k + 1)) _ (h'.take (k + 1) (k + 1) (by omega) (Nat.le_refl _) (by unfold maxLen; omega))).mono ?_
        rintro e w' ⟨v, rfl, ho, hb⟩
        go_wp2
        go_ret
        rw [← hs, HT.out] at ho
        obtain ⟨a', c', rfl⟩ := ho.slice
        exact ⟨a', c', rfl, ho, hb⟩
theorem normal_any (v : Value) (n : Nat) (w : World) (h : Nm w v n) :
    Calls Try.prog 39 #[v] w fun e w' => ∃ a c, e = .returned (.slice a (nl n) c) ∧ NN w.heap.size w' (.slice a (nl n) c) n ∧ Below w.heap.size w w' := by
  obtain ⟨l, hl, rfl, hs⟩ := h
  refine (normal_lb v l w hl).mono ?_
  rintro e w' ⟨a, c, rfl, ho, hb⟩
  have := trim_limbs l hl.lt
  have h2 := trim_le l
  exact ⟨a, c, rfl, ⟨ho, by unfold nl; rw [← this]; omega⟩, hb⟩
end Go.Proofs.Ytljgiagdmnedpaa.Nat_
