/-
The plain law of makers of steps: what a row of puts comes to; the same again; with just as many places, and with fewer.
-/
import Derived.RowKit
namespace Go.Proofs.Ytljgiagdmnedpaa.Tape_

/-- A step as a key: its Op, its two places, its number's text. -/
structure Key where
  op : Nat
  a : Nat
  b : Nat
  c : List UInt8
deriving DecidableEq

/-- A put: the place, and the keys behind it; none where there is no room. -/
def put (B : Nat) (L : List Key) (k : Key) : Option (Nat × List Key) :=
  if k ∈ L then some (L.idxOf k, L) else if L.length < B then some (L.length, L ++ [k]) else none

/-- Puts one behind the other; each key hangs on the places that were told ahead. -/
def runS (B : Nat) : List Key → List Nat → List (List Nat → Key) → Option (List Nat × List Key)
  | L, rs, [] => some (rs, L)
  | L, rs, f :: fs => match put B L (f rs) with
    | none => none
    | some (i, L') => runS B L' (rs ++ [i]) fs

theorem idxOf_pre {k : Key} {L M : List Key} (h : k ∈ L) (hp : L <+: M) : M.idxOf k = L.idxOf k := by
  obtain ⟨t, rfl⟩ := hp
  rw [List.idxOf_append, if_pos h]
theorem idxOf_new {k : Key} {L M : List Key} (h : ¬ k ∈ L) (hp : (L ++ [k]) <+: M) : M.idxOf k = L.length := by
  rw [idxOf_pre (by simp) hp, List.idxOf_append, if_neg h]
  simp
theorem put_pre {B : Nat} {L L' : List Key} {k : Key} {i : Nat} (h : put B L k = some (i, L')) : L <+: L' ∧ k ∈ L' := by
  unfold put at h
  split at h
  · rename_i hm
    cases h
    exact ⟨List.prefix_refl _, hm⟩
  · split at h
    · cases h
      exact ⟨List.prefix_append _ _, by simp⟩
    · cases h
theorem put_lt {B : Nat} {L L' : List Key} {k : Key} {i : Nat} (h : put B L k = some (i, L')) : i < L'.length := by
  unfold put at h
  split at h
  · rename_i hm
    cases h
    exact List.idxOf_lt_length_of_mem hm
  · split at h
    · cases h
      simp
    · cases h
/-- Once put, it is there, at the same place, in all that begins so. -/
theorem put_again {B B' : Nat} {L L' M : List Key} {k : Key} {i : Nat} (h : put B L k = some (i, L')) (hp : L' <+: M) : put B' M k = some (i, M) := by
  have hm : k ∈ M := hp.subset (put_pre h).2
  unfold put at h ⊢
  rw [if_pos hm]
  split at h
  · rename_i hk
    cases h
    rw [idxOf_pre hk hp]
  · rename_i hk
    split at h
    · cases h
      rw [idxOf_new hk hp]
    · cases h
theorem run_pre {B : Nat} : ∀ {fs : List (List Nat → Key)} {L L' : List Key} {rs rs' : List Nat}, runS B L rs fs = some (rs', L') → L <+: L'
  | [], L, L', rs, rs', h => by
    simp only [runS] at h
    cases h
    exact List.prefix_refl _
  | f :: fs, L, L', rs, rs', h => by
    simp only [runS] at h
    split at h
    · cases h
    · rename_i i L1 hq
      exact (put_pre hq).1.trans (run_pre h)
theorem run_again {B B' : Nat} : ∀ {fs : List (List Nat → Key)} {L L' M : List Key} {rs rs' : List Nat}, runS B L rs fs = some (rs', L') → L' <+: M → runS B' M rs fs = some (rs', M)
  | [], L, L', M, rs, rs', h, hp => by
    simp only [runS] at h ⊢
    cases h
    rfl
  | f :: fs, L, L', M, rs, rs', h, hp => by
    simp only [runS] at h ⊢
    split at h
    · cases h
    · rename_i i L1 hq
      rw [put_again hq ((run_pre h).trans hp)]
      exact run_again h hp
theorem put_just {B B' : Nat} {L L' : List Key} {k : Key} {i : Nat} (h : put B L k = some (i, L')) (hb : L'.length ≤ B') : put B' L k = some (i, L') := by
  unfold put at h ⊢
  split at h
  · rename_i hk
    rw [if_pos hk]
    exact h
  · rename_i hk
    rw [if_neg hk]
    split at h
    · cases h
      rw [if_pos (by simp at hb; omega)]
    · cases h
theorem run_just {B B' : Nat} : ∀ {fs : List (List Nat → Key)} {L L' : List Key} {rs rs' : List Nat}, runS B L rs fs = some (rs', L') → L'.length ≤ B' → runS B' L rs fs = some (rs', L')
  | [], L, L', rs, rs', h, hb => h
  | f :: fs, L, L', rs, rs', h, hb => by
    simp only [runS] at h ⊢
    split at h
    · cases h
    · rename_i i L1 hq
      rw [put_just hq (Nat.le_trans (run_pre h).length_le hb)]
      exact run_just h hb
theorem run_less {B B' : Nat} : ∀ {fs : List (List Nat → Key)} {L L' : List Key} {rs rs' : List Nat}, runS B L rs fs = some (rs', L') → L.length ≤ B' → B' < L'.length → runS B' L rs fs = none
  | [], L, L', rs, rs', h, h0, hb => by
    simp only [runS] at h
    cases h
    omega
  | f :: fs, L, L', rs, rs', h, h0, hb => by
    simp only [runS] at h ⊢
    split at h
    · cases h
    · rename_i i L1 hq
      by_cases hl : L1.length ≤ B'
      · rw [put_just hq hl]
        exact run_less h hl hb
      · have : put B' L (f rs) = none := by
          unfold put at hq ⊢
          split at hq
          · cases hq
            omega
          · rename_i hk
            rw [if_neg hk]
            split at hq
            · cases hq
              rw [if_neg (by simp at hl; omega)]
            · cases hq
        rw [this]
/-- As long as there is room for all, nothing goes wrong. -/
theorem run_room {B : Nat} : ∀ {fs : List (List Nat → Key)} {L : List Key} {rs : List Nat}, L.length + fs.length ≤ B → ∃ rs' L', runS B L rs fs = some (rs', L') ∧ L'.length ≤ L.length + fs.length
  | [], L, rs, h => ⟨rs, L, rfl, by simp⟩
  | f :: fs, L, rs, h => by
    simp only [List.length_cons] at h
    have hq : ∃ i L1, put B L (f rs) = some (i, L1) ∧ L1.length ≤ L.length + 1 := by
      unfold put
      split
      · exact ⟨_, _, rfl, by omega⟩
      · rw [if_pos (by omega)]
        exact ⟨_, _, rfl, by simp⟩
    obtain ⟨i, L1, h1, h2⟩ := hq
    obtain ⟨rs', L', h3, h4⟩ := run_room (B := B) (fs := fs) (L := L1) (rs := rs ++ [i]) (by omega)
    refine ⟨rs', L', ?_, by simp; omega⟩
    simp only [runS, h1]
    exact h3
end Go.Proofs.Ytljgiagdmnedpaa.Tape_
