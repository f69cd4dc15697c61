/-
nat.Add: the sum, or that it is too long.
-/
import Derived.Test.YtljgiagdmnedpaaNatPairs
import Derived.Laws.Externs
namespace Go.Proofs.Ytljgiagdmnedpaa.Nat_
open Go.RowKit Go.Shelf

attribute [local go_sem] Oper.semAt_some

/-- math/bits.Add64, a carry of 0 or 1. -/
theorem add64 (a b c : Nat) (ha : a < 18446744073709551616) (hb : b < 18446744073709551616) (hc : c ≤ 1) :
    ∃ s c2 : Nat, s < 18446744073709551616 ∧ c2 ≤ 1 ∧ s + 18446744073709551616 * c2 = a + b + c ∧
      ∀ w : World, (callFunc 73 #[.int .u64 (a : Int), .int .u64 (b : Int), .int .u64 (c : Int)]).run Try.prog w = .ok (.value (.tuple #[.int .u64 (s : Int), .int .u64 (c2 : Int)])) w := by
  refine ⟨(a + b + c) % 18446744073709551616, (a + b + c) / 18446744073709551616, by omega, by omega, by omega, fun w => ?_⟩
  rw [run_callFunc_extern Try.func73 (by kernel_rfl) (by kernel_rfl) (by kernel_rfl) (e := add64Entry) (by kernel_rfl), run_add64 a b c (by omega) (by omega) (by omega) (by omega)]
  simp only [Result.andThen]
  congr 5 <;> omega

theorem add64_0 (a b : Nat) (ha : a < 18446744073709551616) (hb : b < 18446744073709551616) :
    ∃ s c2 : Nat, s < 18446744073709551616 ∧ c2 ≤ 1 ∧ s + 18446744073709551616 * c2 = a + b ∧
      ∀ w : World, (callFunc 73 #[.int .u64 (a : Int), .int .u64 (b : Int), .int .u64 0]).run Try.prog w = .ok (.value (.tuple #[.int .u64 (s : Int), .int .u64 (c2 : Int)])) w := by
  obtain ⟨s, c2, h1, h2, h3, h4⟩ := add64 a b 0 ha hb (by decide)
  exact ⟨s, c2, h1, h2, by omega, h4⟩
theorem val_upto (l : List Nat) (h : ∀ x ∈ l, x < 18446744073709551616) : ∀ k, val ((upto (fun j => digit l j) k)) = low l k
  | 0 => rfl
  | k + 1 => by
    rw [upto_succ, val_snoc, val_upto l h k, upto_length, low]
def fstL (pre : List (Nat × Limb × Limb)) : List Nat := pre.map fun x => x.2.1.1
def sndL (pre : List (Nat × Limb × Limb)) : List Nat := pre.map fun x => x.2.2.1
theorem fst_upto (l m : List Nat) (hl hm) (k : Nat) : fstL (upto (pairAt l m hl hm) k) = upto (fun j => digit l j) k := by simp [fstL, upto, pairAt, dg, Function.comp_def]
theorem snd_upto (l m : List Nat) (hl hm) (k : Nat) : sndL (upto (pairAt l m hl hm) k) = upto (fun j => digit m j) k := by simp [sndL, upto, pairAt, dg, Function.comp_def]
theorem all_pairs (l m : List Nat) (hl hm) : val (fstL (upto (pairAt l m hl hm) (max l.length m.length))) = val l ∧ val (sndL (upto (pairAt l m hl hm) (max l.length m.length))) = val m := by
  rw [fst_upto, snd_upto, val_upto l hl, val_upto m hm]
  exact ⟨low_all l _ (by omega), low_all m _ (by omega)⟩
/-- What the row r and the carry c are, when the limbs pre have been added. -/
def SumOf (pre : List (Nat × Limb × Limb)) (r : List Nat) (c : Nat) : Prop :=
  r.length = pre.length ∧ c ≤ 1 ∧ (∀ x ∈ r, x < 18446744073709551616) ∧ val r + 18446744073709551616 ^ pre.length * c = val (fstL pre) + val (sndL pre)
theorem SumOf.nil : SumOf [] [] 0 := ⟨rfl, by decide, by simp, by simp [val, fstL, sndL]⟩
theorem SumOf.snoc {pre : List (Nat × Limb × Limb)} {r : List Nat} {c : Nat} (h : SumOf pre r c) (x : Nat × Limb × Limb) (s c2 : Nat) (hs : s < 18446744073709551616) (hc : c2 ≤ 1) (e : s + 18446744073709551616 * c2 = x.2.1.1 + x.2.2.1 + c) : SumOf (pre ++ [x]) (r ++ [s]) c2 := by
  obtain ⟨h1, h2, h3, h4⟩ := h
  refine ⟨by simp [h1], hc, ?_, ?_⟩
  · intro y hy
    rcases List.mem_append.1 hy with hy | hy
    · exact h3 y hy
    · obtain rfl : y = s := by simpa using hy
      exact hs
  · have e1 : fstL (pre ++ [x]) = fstL pre ++ [x.2.1.1] := by simp [fstL]
    have e2 : sndL (pre ++ [x]) = sndL pre ++ [x.2.2.1] := by simp [sndL]
    have l1 : (fstL pre).length = pre.length := by simp [fstL]
    have l2 : (sndL pre).length = pre.length := by simp [sndL]
    rw [e1, e2, val_snoc, val_snoc, val_snoc, l1, l2, h1, List.length_append, List.length_singleton, Nat.pow_succ]
    exact add_step _ _ _ _ _ _ _ _ _ h4 e

/-- append of one limb to a row of the call's own. -/
theorem app1_in {n : Nat} {F : Fence} {ops : Array Oper} {rest : List Oper} {o : Oper} {a : Act} {Q : Exit → Act → World → Prop} (W : World) (hg : o.guard = none) (s x : Operand)
    (hop : o.op = Op.call { callee := Callee.builtin Builtin.append, args := #[s, x], argTypes := #[31, 31] }) (base : Nat) (v : Value) (r : List Nat) (u : Nat) (hs : a.eval s = v)
    (hown : W.ownsRow base 54 1 v r.length (r.map limbV)) (hx : a.eval x = .slice (some ⟨W.heap.size, 0, none⟩) 1 1) (hr : r.length ≤ 3000000) (hb : base ≤ W.heap.size)
    (hK : ∀ g cap w', w'.ownsRow base 54 1 (.slice (some ⟨g, 0, none⟩) (r.length + 1) cap) (r.length + 1) ((r ++ [u]).map limbV) → (W.alloc (.cells #[.int .u64 (u : Int)] 54)).grownBy w' v.ownBlock →
      wpListIn F n Try.prog ops Q rest (a.put o.dst (.slice (some ⟨g, 0, none⟩) (r.length + 1) cap)) w') :
    wpListIn F n Try.prog ops Q (o :: rest) a (W.alloc (.cells #[.int .u64 (u : Int)] 54)) := by
  obtain ⟨i0, hi, hz0, hz1, hz2⟩ := info_parts Try.limbInfo
  refine wpListIn_append_own _ hg s x 31 hop base 54 i0 (.int .u64 0) 1 8 Try.underlying31 hi hz0 hz1 hz2 rfl (by decide) v r.length (r.map limbV) hs (hown.alloc _) ⟨W.heap.size, 0, none⟩ 1 1 [.int .u64 (u : Int)] hx rfl (cell_one_new _ _ _) (by simp [Value.oneCell']) (by unfold maxLen; omega) (by omega) (by simp; omega) ?_
  intro v' w' h1 h2 _
  obtain ⟨g, cap, rfl⟩ := ownsRow_succ h1
  refine hK g cap w' ?_ h2
  rw [List.map_append]
  exact h1

end Go.Proofs.Ytljgiagdmnedpaa.Nat_
