/-
Slices of limbs: what they hold; slices.Clone of one.
-/
import Derived.Test.YtljgiagdmnedpaaNatLow
import Derived.Test.YtljgiagdmnedpaaOwn
import Derived.Test.YtljgiagdmnedpaaProg
import Derived.Lib.Walk
import Derived.Lib.SliceRun
import Derived.Deep.LoopGhost
namespace Go.Proofs.Ytljgiagdmnedpaa.Nat_
open Go.RowKit

def limbV (x : Nat) : Value := .int .u64 (x : Int)
/-- The value v is a slice that holds the limbs l. -/
def Lb (w : World) (v : Value) (l : List Nat) : Prop :=
  ∃ a len cap, v = .slice a len cap ∧ l.length = len ∧ len ≤ cap ∧ cap ≤ maxLen ∧ len ≤ 4000000 ∧ (∀ x ∈ l, x < 18446744073709551616) ∧
    (0 < len → ∃ b off, a = some ⟨b, off, none⟩ ∧ b < w.heap.size ∧ ∀ i x, l[i]? = some x → w.cell? ⟨b, off + i, none⟩ = some (limbV x))
/-- The value v is a slice of limbs in memory that a call has made from block B on. -/
def Ow (B : Nat) (w : World) (v : Value) (l : List Nat) : Prop :=
  w.ownsRow B 54 1 v l.length (l.map limbV) ∧ l.length ≤ 4000000 ∧ ∀ x ∈ l, x < 18446744073709551616
theorem limbV_one (l : List Nat) : ∀ v ∈ l.map limbV, v.oneCell' = true := by
  intro v hv
  obtain ⟨x, -, rfl⟩ := List.mem_map.1 hv
  rfl
theorem Lb.size {w : World} {v : Value} {l : List Nat} (h : Lb w v l) : l.length ≤ 4000000 := by
  obtain ⟨a, len, cap, rfl, h1, h2, h3, h0, -⟩ := h
  omega
theorem Lb.lt {w : World} {v : Value} {l : List Nat} (h : Lb w v l) : ∀ x ∈ l, x < 18446744073709551616 := by
  obtain ⟨a, len, cap, rfl, h1, h2, h3, h0, h4, -⟩ := h
  exact h4
theorem Lb.below {w w' : World} {v : Value} {l : List Nat} (h : Lb w v l) (hb : Below w.heap.size w w') : Lb w' v l := by
  obtain ⟨a, len, cap, rfl, h1, h2, h3, h0, h4, h5⟩ := h
  refine ⟨a, len, cap, rfl, h1, h2, h3, h0, h4, fun h0 => ?_⟩
  obtain ⟨b, off, ha, hbw, hc⟩ := h5 h0
  exact ⟨b, off, ha, Nat.lt_of_lt_of_le hbw hb.size, fun i x hi => (hb.cell (p := ⟨b, off + i, none⟩) hbw).trans (hc i x hi)⟩
theorem Lb.nil (w : World) : Lb w (.slice none 0 0) [] := ⟨none, 0, 0, rfl, rfl, Nat.le_refl _, Nat.zero_le _, by decide, by simp, fun h => absurd h (by decide)⟩
theorem Lb.row {w : World} {v : Value} {l : List Nat} {B : Nat} {e : TypeId} (h : w.ownsRow B e 1 v l.length (l.map limbV)) (hs : l.length ≤ 4000000) (hl : ∀ x ∈ l, x < 18446744073709551616) : Lb w v l := by
  obtain ⟨-, ⟨rfl, hn⟩ | ⟨g, cap, cur, rfl, hB, hg, hnc, hcm, hcs, htk⟩⟩ := h
  · refine ⟨none, 0, 0, rfl, hn, Nat.le_refl _, Nat.zero_le _, by decide, hl, fun h0 => absurd h0 (by decide)⟩
  · refine ⟨some ⟨g, 0, none⟩, l.length, cap, rfl, rfl, hnc, hcm, hs, hl, fun h0 => ⟨g, 0, rfl, ?_, fun i x hi => ?_⟩⟩
    · exact (Array.getElem?_eq_some_iff.1 hg).1
    · rw [Nat.mul_one] at htk
      have hx : (cur.toList.take l.length)[i]? = some (limbV x) := by rw [htk, List.getElem?_map, hi]; rfl
      obtain ⟨hil, -⟩ := List.getElem?_eq_some_iff.1 hi
      rw [List.getElem?_take_of_lt hil, Array.getElem?_toList] at hx
      rw [Nat.zero_add]
      unfold World.cell?
      simp only [hg]
      exact hx
theorem Ow.lb {B : Nat} {w : World} {v : Value} {l : List Nat} (h : Ow B w v l) : Lb w v l := Lb.row h.1 h.2.1 h.2.2
theorem Ow.nil (B : Nat) (w : World) : Ow B w (.slice none 0 0) [] := ⟨World.ownsRow_nil _ _ _ _, by simp, by simp⟩
/-- A row of one's own keeps over what leaves alone what lay ahead of it. -/
theorem Ow.below {B : Nat} {w w' : World} {v : Value} {l : List Nat} (h : Ow B w v l) (hb : Below w.heap.size w w') : Ow B w' v l := by
  refine ⟨?_, h.2⟩
  obtain ⟨⟨h0, h1⟩, -⟩ := h
  refine ⟨h0, ?_⟩
  rcases h1 with h1 | ⟨g, cap, cur, e, hB, hg, hr⟩
  · exact .inl h1
  · exact .inr ⟨g, cap, cur, e, hB, (hb.block g (Array.getElem?_eq_some_iff.1 hg).1).trans hg, hr⟩
theorem Ow.ge {B C : Nat} {w : World} {v : Value} {l : List Nat} (h : Ow B w v l) (hb : C ≤ B) : Ow C w v l := by
  refine ⟨?_, h.2⟩
  obtain ⟨⟨h0, h1⟩, -⟩ := h
  refine ⟨h0, ?_⟩
  rcases h1 with h1 | ⟨g, cap, cur, e, hB, hr⟩
  · exact .inl h1
  · exact .inr ⟨g, cap, cur, e, by omega, hr⟩
theorem Ow.slice {B : Nat} {w : World} {v : Value} {l : List Nat} (h : Ow B w v l) : ∃ a cap, v = .slice a l.length cap := by
  obtain ⟨⟨-, ⟨rfl, hn⟩ | ⟨g, cap, cur, rfl, -⟩⟩, -⟩ := h
  · exact ⟨none, 0, by rw [hn]⟩
  · exact ⟨_, _, rfl⟩
/-- The first limbs of a slice. -/
theorem Lb.take {w : World} {a : Option Addr} {len cap : Nat} {l : List Nat} (h : Lb w (.slice a len cap) l) (k c : Nat) (hk : k ≤ len) (hc : k ≤ c) (hcm : c ≤ maxLen) : Lb w (.slice a k c) (l.take k) := by
  obtain ⟨a', len', cap', he, h1, h2, h3, h0, h4, h5⟩ := h
  obtain ⟨rfl, rfl, rfl⟩ : a = a' ∧ len = len' ∧ cap = cap' := by simpa using he
  refine ⟨a, k, c, rfl, by simp; omega, hc, hcm, by omega, fun x hx => h4 x (List.mem_of_mem_take hx), fun hk0 => ?_⟩
  obtain ⟨b, off, ha, hbw, hcell⟩ := h5 (by omega)
  refine ⟨b, off, ha, hbw, fun i x hi => hcell i x ?_⟩
  rw [List.getElem?_take] at hi
  split at hi
  · exact hi
  · cases hi

theorem Try.limbInfo : (Try.prog.info? 54).map (fun i => (i.zero, i.size, i.bytes)) = some (some (.int .u64 0), 1, 8) := by kernel_rfl

set_option maxHeartbeats 4000000 in
/-- slices.Clone of a slice of limbs: the same limbs, in new memory. -/
theorem clone_any (a : Option Addr) (len cap : Nat) (l : List Nat) (w : World) (h : Lb w (.slice a len cap) l) :
    Calls Try.prog 53 #[.slice a len cap] w fun e w' => ∃ v, e = .returned v ∧ Ow w.heap.size w' v l ∧ Below w.heap.size w w' := by
  obtain ⟨a', len', cap', he, h1, h2, h3, h0, h4, h5⟩ := h
  obtain ⟨rfl, rfl, rfl⟩ : a = a' ∧ len = len' ∧ cap = cap' := by simpa using he
  obtain ⟨i, hi, hz0, hz1, hz2⟩ := info_parts Try.limbInfo
  cases a with
  | none =>
    have hn : len = 0 := by
      rcases Nat.eq_zero_or_pos len with h0 | h0
      · exact h0
      · obtain ⟨_, _, hx, _⟩ := h5 h0
        cases hx
    subst hn
    have hl : l = [] := List.length_eq_zero_iff.1 h1
    subst hl
    have q : ∀ (w : World) (n c n' c' : Nat), (binOp .eql 31 (.slice none n c) (.slice none n' c')).run Try.prog w = .ok (.bool true) w := fun w n c n' c' => Lib.run_eql_slice_nil w _ _ none n c n' c' Try.underlying31
    go_enter Try.func53, Try.ntmps53
    go_wp2
    go_ret
    exact ⟨_, rfl, Ow.nil _ _, Below.refl _ _⟩
  | some p =>
    have q : ∀ (w : World) (n c n' c' : Nat), (binOp .eql 31 (.slice (some p) n c) (.slice none n' c')).run Try.prog w = .ok (.bool false) w := fun w n c n' c' => Lib.run_eql_slice_nil w _ _ (some p) n c n' c' Try.underlying31
    have hcell : ∀ j u, (l.map limbV)[j]? = some u → w.cell? (p.add j) = some u := by
      intro j u hj
      obtain ⟨hjl, -⟩ := List.getElem?_eq_some_iff.1 hj
      rw [List.length_map] at hjl
      obtain ⟨b, off, hp, hbw, hc⟩ := h5 (by omega)
      obtain rfl := Option.some.inj hp
      rw [List.getElem?_map, List.getElem?_eq_getElem hjl, Option.map_some] at hj
      have hj := Option.some.inj hj
      rw [Addr.add_lit, ← hj]
      exact hc j _ (List.getElem?_eq_getElem hjl)
    have A : Go.Aside (∀ j u, (l.map limbV)[j]? = some u → w.cell? (p.add j) = some u) := hcell
    clear hcell
    go_enter Try.func53, Try.ntmps53
    go_wp2_with (at_builtin; refine wpList_append_own _ rfl _ _ 31 rfl w.heap.size 54 i (.int .u64 0) 1 8 Try.underlying31 hi hz0 hz1 hz2 rfl (by decide) _ _ _ rfl (World.ownsRow_made w #[] 0 (Nat.le_refl _) (Nat.zero_le _) (by simp)) p len cap (l.map limbV) rfl ?qc1 ?qc2 ?qc3 ?qc4 ?qc5 ?qc6 ?_)
    case qc1 => simp [h1]
    case qc2 =>
      intro j u hj
      exact Lib.cell?_alloc_some _ (A.out j u hj)
    case qc3 => exact limbV_one l
    case qc4 => rw [Nat.zero_add]; unfold maxLen; omega
    case qc5 => rw [Nat.zero_add]; omega
    case qc6 => simp
    intro v' w1 hown hgrow hnil
    go_wp2
    go_ret
    refine ⟨v', rfl, ⟨by rw [h1]; simpa using hown, by omega, h4⟩, ?_⟩
    exact ((Below.refl _ w).alloc (Nat.le_refl _) _).grown hgrow (by simp) (by intro k hk; simp [Value.ownBlock] at hk; omega)
end Go.Proofs.Ytljgiagdmnedpaa.Nat_
