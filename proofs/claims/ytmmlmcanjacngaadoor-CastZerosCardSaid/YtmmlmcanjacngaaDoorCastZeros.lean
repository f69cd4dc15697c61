/-
CastZeros: the remainder of bytes 0 is a power of two, that turns with 61; bytes 0 ahead of a text are seen, but for as many as turn it once. Texts of more than 1000 bytes are let go. No condition.
-/
import Derived.Test.YtmmlmcanjacngaaDoorCastHead
namespace Go.Proofs.YtmmlmcanjacngaaDoor
open Go.RowKit

theorem cancel256 (a c L : Nat) (h : (a * 256 ^ L) % P61 = (c * 256 ^ L) % P61) : a % P61 = c % P61 := by
  induction L with
  | zero => simpa using h
  | succ L ih =>
    apply ih
    rw [Nat.pow_succ, ← Nat.mul_assoc, ← Nat.mul_assoc] at h
    generalize a * 256 ^ L = x at *
    generalize c * 256 ^ L = y at *
    unfold P61 at *
    omega
theorem more_inj (a c : Nat) (l : List UInt8) (h : more a l = more c l) : a % P61 = c % P61 := by
  unfold more at h
  refine cancel256 a c l.length ?_
  generalize a * 256 ^ l.length = x at *
  generalize c * 256 ^ l.length = y at *
  unfold P61 at *
  omega
theorem be_zeros (n : Nat) : be (List.replicate n 0) = 0 := by
  induction n with
  | zero => rfl
  | succ n ih => rw [List.replicate_succ', be_snoc, ih]; rfl
theorem zeros_all : ∀ n : Fin 201, 256 ^ n.val % P61 = 2 ^ (8 * n.val % 61) := by decide +kernel
theorem rest_zeros (n : Nat) (h : n < 201) : rest (List.replicate n 0) = 2 ^ (8 * n % 61) := by
  unfold rest more
  rw [be_zeros, List.length_replicate, Nat.one_mul, Nat.add_zero]
  exact zeros_all ⟨n, h⟩
theorem pow_small : ∀ k : Fin 61, 2 ^ k.val % P61 = 1 % P61 → k.val = 0 := by decide +kernel
theorem seen_iff (n : Nat) (h : n < 201) (l : List UInt8) : rest (List.replicate n 0 ++ l) = rest l ↔ 8 * n % 61 = 0 := by
  have e : rest (List.replicate n 0 ++ l) = more (2 ^ (8 * n % 61)) l := by
    rw [← rest_zeros n h]
    exact (more_append 1 _ l).symm
  rw [e]
  constructor
  · intro he
    exact pow_small ⟨8 * n % 61, Nat.mod_lt _ (by decide)⟩ (more_inj _ 1 l he)
  · intro he
    rw [he]
    rfl

theorem castZeros_walk (k : Int) (s : ByteArray) (w : World) (h0 : 0 ≤ k) (h1 : k < 256) (hs : s.size ≤ maxLen) (hsh : Shifts w) :
    Calls Tryd.prog 8 #[.int .u8 k, .string s] w fun e w' => e = .returned (.bool true) ∧ Below w.heap.size w w' := by
  by_cases hl : 1000 < s.size
  · unfold maxLen at hs
    go_enter Tryd.func8, Tryd.ntmps8
    go_wp2_with fail
    refine (head_any w hsh).mono ?_
    rintro e w1 ⟨rfl, hb1⟩
    go_wp2_with fail
    go_ret
    exact ⟨rfl, hb1⟩
  · obtain ⟨n, hn⟩ : ∃ n : Nat, k % 201 = (n : Int) := ⟨(k % 201).toNat, by omega⟩
    have hn2 : n < 201 := by omega
    obtain ⟨Z, hZ⟩ : ∃ Z : List Value, Z = List.replicate n (.int .u8 0) := ⟨_, rfl⟩
    have hmk : ∀ W : World, (Instr.makeSlice 33 (.int .i64 (n : Int)) (.int .i64 (n : Int))).run Tryd.prog W = .ok (.slice (some ⟨W.heap.size, 0, none⟩) n n) (W.alloc (.cells Z.toArray 5)) := by
      intro W
      have h := run_make_row' (P := Tryd.prog) 33 5 _ 1 Tryd.underlying33 info_u8 rfl .i64 .i64 n (by omega) (by omega) W
      rw [madeCells_one, ← hZ] at h
      exact h
    have hcv : ∀ W : World, (convert 33 9 (.slice (some ⟨W.heap.size, 0, none⟩) n n)).run Tryd.prog (W.alloc (.cells Z.toArray 5)) = .ok (.string ⟨(List.replicate n 0).toArray⟩) (W.alloc (.cells Z.toArray 5)) := fun W =>
      run_str_of_blk 33 9 5 Tryd.underlying33 Tryd.underlying5 Tryd.underlying9 W.heap.size 0 n n (List.replicate n 0) (by simp) 5 Z (Blk.new W 5 Z) (by rw [hZ]; simp [bytesV])
    obtain ⟨z, hz⟩ : ∃ z : ByteArray, z = ⟨(List.replicate n 0).toArray⟩ := ⟨_, rfl⟩
    have hzs : z.size = n := by rw [hz]; show (List.replicate n (0 : UInt8)).toArray.size = n; simp
    have hzd : z.data.toList = List.replicate n 0 := by rw [hz]
    rw [← hz] at hcv
    have hzz : z.size ≤ 200 := by omega
    obtain ⟨y, hy⟩ : ∃ y, z ++ s = y := ⟨_, rfl⟩
    have hap : y.data.toList = List.replicate n 0 ++ s.data.toList := by rw [← hy]; simp [hzd]
    have hapz : y.size ≤ 1200 := by rw [← hy, ByteArray.size_append]; omega
    have hseen := seen_iff n hn2 s.data.toList
    have hrz := rest_zeros n hn2
    rw [← hzd] at hrz
    rw [← hap] at hseen
    have q1 : (((rest y.data.toList : Int) == (rest s.data.toList : Int)) == ((8 * (n : Int) % 61) == 0)) = true := by
      by_cases hq : 8 * n % 61 = 0
      · rw [hseen.2 hq]
        have e2 : ((8 * (n : Int) % 61) == 0) = true := by rw [beq_iff_eq]; omega
        rw [e2]
        simp
      · have : ¬ rest y.data.toList = rest s.data.toList := fun h => hq (hseen.1 h)
        have e1 : ((rest y.data.toList : Int) == (rest s.data.toList : Int)) = false := by simp; omega
        have e2 : ((8 * (n : Int) % 61) == 0) = false := by simp; omega
        rw [e1, e2]
        rfl
    have q2 : ((rest z.data.toList : Int) == IntKind.u64.wrap (2 ^ (8 * n % 61))) = true := by
      have hlt := more_lt 1 z.data.toList
      change rest z.data.toList < P61 at hlt
      unfold P61 at hlt
      have e : ((2 : Int) ^ (8 * n % 61)) = (rest z.data.toList : Int) := by rw [hrz]; simp
      rw [e, IntWalk.u64_in _ ⟨by omega, by omega⟩]
      simp
    have HN := Lib.hid hn
    clear hz hzd hap hseen hrz hZ hzs
    go_enter Tryd.func8, Tryd.ntmps8
    go_wp2_with fail
    refine (rest_any y _ (by unfold maxLen; omega) (hsh.below ((Below.refl _ _).alloc (Nat.le_refl _) _))).mono ?_
    rintro e w' ⟨rfl, rfl⟩
    go_wp2_with fail
    refine (rest_any s _ hs (hsh.below ((Below.refl _ _).alloc (Nat.le_refl _) _))).mono ?_
    rintro e w' ⟨rfl, rfl⟩
    go_wp2_with fail
    refine (rest_any z _ (by unfold maxLen; omega) (hsh.below ((Below.refl _ _).alloc (Nat.le_refl _) _))).mono ?_
    rintro e w' ⟨rfl, rfl⟩
    go_wp2_with fail
    refine (head_any _ (hsh.below ((Below.refl _ _).alloc (Nat.le_refl _) _))).mono ?_
    rintro e w1 ⟨rfl, hb1⟩
    go_wp2_with fail
    go_ret
    exact ⟨rfl, ((Below.refl _ _).alloc (Nat.le_refl _) _).trans (hb1.mono (by simp))⟩
end Go.Proofs.YtmmlmcanjacngaaDoor
