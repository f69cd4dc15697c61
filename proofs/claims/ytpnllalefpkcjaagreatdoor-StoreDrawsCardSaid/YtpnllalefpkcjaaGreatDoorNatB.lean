/-
Slices of limbs: what they hold; slices.Clone of one.
nat.normal, told, Norm, Of, Bits: a number without limbs on top that are 0.
nat.told, Norm, Of, long: a number is told in its normal form, or is too long.
A region that draws its order, inside a range over a function: quiet operations ahead of a tail in one order.
Slices of limbs as they came in.
-/
import Derived.Test.YtpnllalefpkcjaaGreatDoorNatA
import Derived.Test.YtpnllalefpkcjaaGreatDoorMemA
import Derived.Test.YtpnllalefpkcjaaGreatDoorProg
import Derived.Lib.Walk
import Derived.Lib.SliceRun
import Derived.Deep.LoopGhost
import Derived.RangeFuncNested
import Derived.RangeFuncBound
import Derived.RangeFuncCalls
import Derived.RangeFuncLeaves
import Derived.RangeFuncBox
import Derived.Shelf.Abstract
import Derived.Shelf.RegionOpen
import Derived.WalkKit
import Derived.OwnWalkIn
import Derived.TacticsInMore
import Derived.LoopNIn
import Derived.LoopIn
import Derived.Maps.AppendAt
import Derived.StillTailTactics
namespace Go.Proofs.YtpnllalefpkcjaaGreatDoor.Nat_
open Go.RowKit

def limbV (x : Nat) : Value := .int .u64 (x : Int)
/-- The value v is a slice that holds the limbs l. -/
def Lb (w : World) (v : Value) (l : List Nat) : Prop :=
  ∃ a len cap, v = .slice a len cap ∧ l.length = len ∧ len ≤ cap ∧ cap ≤ maxLen ∧ len ≤ 4000000 ∧ (∀ x ∈ l, x < 18446744073709551616) ∧
    (0 < len → ∃ b off, a = some ⟨b, off, none⟩ ∧ b < w.heap.size ∧ ∀ i x, l[i]? = some x → w.cell? ⟨b, off + i, none⟩ = some (limbV x))
/-- The value v is a slice of limbs in memory that a call has made from block B on. -/
def Ow (B : Nat) (w : World) (v : Value) (l : List Nat) : Prop :=
  w.ownsRow B 26 1 v l.length (l.map limbV) ∧ l.length ≤ 4000000 ∧ ∀ x ∈ l, x < 18446744073709551616
theorem limbV_one (l : List Nat) : ∀ v ∈ l.map limbV, v.oneCell' = true := by
  intro v hv
  obtain ⟨x, -, rfl⟩ := List.mem_map.1 hv
  rfl
theorem Lb.size {w : World} {v : Value} {l : List Nat} (h : Lb w v l) : l.length ≤ 4000000 := by
  obtain ⟨a, len, cap, rfl, h1, h2, h3, h0, -⟩ := h
  omega
theorem Lb.lt {w : World} {v : Value} {l : List Nat} (h : Lb w v l) : ∀ x ∈ l, x < 18446744073709551616 := by
  obtain ⟨a, len, cap, rfl, h1, h2, h3, h0, h4, -⟩ := h
  exact h4
theorem Lb.below {w w' : World} {v : Value} {l : List Nat} (h : Lb w v l) (hb : Below w.heap.size w w') : Lb w' v l := by
  obtain ⟨a, len, cap, rfl, h1, h2, h3, h0, h4, h5⟩ := h
  refine ⟨a, len, cap, rfl, h1, h2, h3, h0, h4, fun h0 => ?_⟩
  obtain ⟨b, off, ha, hbw, hc⟩ := h5 h0
  exact ⟨b, off, ha, Nat.lt_of_lt_of_le hbw hb.size, fun i x hi => (hb.cell (p := ⟨b, off + i, none⟩) hbw).trans (hc i x hi)⟩
theorem Lb.nil (w : World) : Lb w (.slice none 0 0) [] := ⟨none, 0, 0, rfl, rfl, Nat.le_refl _, Nat.zero_le _, by decide, by simp, fun h => absurd h (by decide)⟩
theorem Lb.row {w : World} {v : Value} {l : List Nat} {B : Nat} {e : TypeId} (h : w.ownsRow B e 1 v l.length (l.map limbV)) (hs : l.length ≤ 4000000) (hl : ∀ x ∈ l, x < 18446744073709551616) : Lb w v l := by
  obtain ⟨-, ⟨rfl, hn⟩ | ⟨g, cap, cur, rfl, hB, hg, hnc, hcm, hcs, htk⟩⟩ := h
  · refine ⟨none, 0, 0, rfl, hn, Nat.le_refl _, Nat.zero_le _, by decide, hl, fun h0 => absurd h0 (by decide)⟩
  · refine ⟨some ⟨g, 0, none⟩, l.length, cap, rfl, rfl, hnc, hcm, hs, hl, fun h0 => ⟨g, 0, rfl, ?_, fun i x hi => ?_⟩⟩
    · exact (Array.getElem?_eq_some_iff.1 hg).1
    · rw [Nat.mul_one] at htk
      have hx : (cur.toList.take l.length)[i]? = some (limbV x) := by rw [htk, List.getElem?_map, hi]; rfl
      obtain ⟨hil, -⟩ := List.getElem?_eq_some_iff.1 hi
      rw [List.getElem?_take_of_lt hil, Array.getElem?_toList] at hx
      rw [Nat.zero_add]
      unfold World.cell?
      simp only [hg]
      exact hx
theorem Ow.lb {B : Nat} {w : World} {v : Value} {l : List Nat} (h : Ow B w v l) : Lb w v l := Lb.row h.1 h.2.1 h.2.2
theorem Ow.nil (B : Nat) (w : World) : Ow B w (.slice none 0 0) [] := ⟨World.ownsRow_nil _ _ _ _, by simp, by simp⟩
/-- A row of one's own keeps over what leaves alone what lay ahead of it. -/
theorem Ow.below {B : Nat} {w w' : World} {v : Value} {l : List Nat} (h : Ow B w v l) (hb : Below w.heap.size w w') : Ow B w' v l := by
  refine ⟨?_, h.2⟩
  obtain ⟨⟨h0, h1⟩, -⟩ := h
  refine ⟨h0, ?_⟩
  rcases h1 with h1 | ⟨g, cap, cur, e, hB, hg, hr⟩
  · exact .inl h1
  · exact .inr ⟨g, cap, cur, e, hB, (hb.block g (Array.getElem?_eq_some_iff.1 hg).1).trans hg, hr⟩
theorem Ow.ge {B C : Nat} {w : World} {v : Value} {l : List Nat} (h : Ow B w v l) (hb : C ≤ B) : Ow C w v l := by
  refine ⟨?_, h.2⟩
  obtain ⟨⟨h0, h1⟩, -⟩ := h
  refine ⟨h0, ?_⟩
  rcases h1 with h1 | ⟨g, cap, cur, e, hB, hr⟩
  · exact .inl h1
  · exact .inr ⟨g, cap, cur, e, by omega, hr⟩
theorem Ow.slice {B : Nat} {w : World} {v : Value} {l : List Nat} (h : Ow B w v l) : ∃ a cap, v = .slice a l.length cap := by
  obtain ⟨⟨-, ⟨rfl, hn⟩ | ⟨g, cap, cur, rfl, -⟩⟩, -⟩ := h
  · exact ⟨none, 0, by rw [hn]⟩
  · exact ⟨_, _, rfl⟩
/-- The first limbs of a slice. -/
theorem Lb.take {w : World} {a : Option Addr} {len cap : Nat} {l : List Nat} (h : Lb w (.slice a len cap) l) (k c : Nat) (hk : k ≤ len) (hc : k ≤ c) (hcm : c ≤ maxLen) : Lb w (.slice a k c) (l.take k) := by
  obtain ⟨a', len', cap', he, h1, h2, h3, h0, h4, h5⟩ := h
  obtain ⟨rfl, rfl, rfl⟩ : a = a' ∧ len = len' ∧ cap = cap' := by simpa using he
  refine ⟨a, k, c, rfl, by simp; omega, hc, hcm, by omega, fun x hx => h4 x (List.mem_of_mem_take hx), fun hk0 => ?_⟩
  obtain ⟨b, off, ha, hbw, hcell⟩ := h5 (by omega)
  refine ⟨b, off, ha, hbw, fun i x hi => hcell i x ?_⟩
  rw [List.getElem?_take] at hi
  split at hi
  · exact hi
  · cases hi

theorem Tryz.limbInfo : (Tryz.prog.info? 26).map (fun i => (i.zero, i.size, i.bytes)) = some (some (.int .u64 0), 1, 8) := by kernel_rfl

set_option maxHeartbeats 4000000 in
/-- slices.Clone of a slice of limbs: the same limbs, in new memory. -/
theorem clone_any (a : Option Addr) (len cap : Nat) (l : List Nat) (w : World) (h : Lb w (.slice a len cap) l) :
    Calls Tryz.prog 77 #[.slice a len cap] w fun e w' => ∃ v, e = .returned v ∧ Ow w.heap.size w' v l ∧ Below w.heap.size w w' := by
  obtain ⟨a', len', cap', he, h1, h2, h3, h0, h4, h5⟩ := h
  obtain ⟨rfl, rfl, rfl⟩ : a = a' ∧ len = len' ∧ cap = cap' := by simpa using he
  obtain ⟨i, hi, hz0, hz1, hz2⟩ := info_parts Tryz.limbInfo
  cases a with
  | none =>
    have hn : len = 0 := by
      rcases Nat.eq_zero_or_pos len with h0 | h0
      · exact h0
      · obtain ⟨_, _, hx, _⟩ := h5 h0
        cases hx
    subst hn
    have hl : l = [] := List.length_eq_zero_iff.1 h1
    subst hl
    have q : ∀ (w : World) (n c n' c' : Nat), (binOp .eql 45 (.slice none n c) (.slice none n' c')).run Tryz.prog w = .ok (.bool true) w := fun w n c n' c' => Lib.run_eql_slice_nil w _ _ none n c n' c' Tryz.underlying45
    go_enter Tryz.func77, Tryz.ntmps77
    go_wp2
    go_ret
    exact ⟨_, rfl, Ow.nil _ _, Below.refl _ _⟩
  | some p =>
    have q : ∀ (w : World) (n c n' c' : Nat), (binOp .eql 45 (.slice (some p) n c) (.slice none n' c')).run Tryz.prog w = .ok (.bool false) w := fun w n c n' c' => Lib.run_eql_slice_nil w _ _ (some p) n c n' c' Tryz.underlying45
    have hcell : ∀ j u, (l.map limbV)[j]? = some u → w.cell? (p.add j) = some u := by
      intro j u hj
      obtain ⟨hjl, -⟩ := List.getElem?_eq_some_iff.1 hj
      rw [List.length_map] at hjl
      obtain ⟨b, off, hp, hbw, hc⟩ := h5 (by omega)
      obtain rfl := Option.some.inj hp
      rw [List.getElem?_map, List.getElem?_eq_getElem hjl, Option.map_some] at hj
      have hj := Option.some.inj hj
      rw [Addr.add_lit, ← hj]
      exact hc j _ (List.getElem?_eq_getElem hjl)
    have A : Go.Aside (∀ j u, (l.map limbV)[j]? = some u → w.cell? (p.add j) = some u) := hcell
    clear hcell
    go_enter Tryz.func77, Tryz.ntmps77
    go_wp2_with (at_builtin; refine wpList_append_own _ rfl _ _ 45 rfl w.heap.size 26 i (.int .u64 0) 1 8 Tryz.underlying45 hi hz0 hz1 hz2 rfl (by decide) _ _ _ rfl (World.ownsRow_made w #[] 0 (Nat.le_refl _) (Nat.zero_le _) (by simp)) p len cap (l.map limbV) rfl ?qc1 ?qc2 ?qc3 ?qc4 ?qc5 ?qc6 ?_)
    case qc1 => simp [h1]
    case qc2 =>
      intro j u hj
      exact Lib.cell?_alloc_some _ (A.out j u hj)
    case qc3 => exact limbV_one l
    case qc4 => rw [Nat.zero_add]; unfold maxLen; omega
    case qc5 => rw [Nat.zero_add]; omega
    case qc6 => simp
    intro v' w1 hown hgrow hnil
    go_wp2
    go_ret
    refine ⟨v', rfl, ⟨by rw [h1]; simpa using hown, by omega, h4⟩, ?_⟩
    exact ((Below.refl _ w).alloc (Nat.le_refl _) _).grown hgrow (by simp) (by intro k hk; simp [Value.ownBlock] at hk; omega)
end Go.Proofs.YtpnllalefpkcjaaGreatDoor.Nat_

namespace Go.Proofs.YtpnllalefpkcjaaGreatDoor.Nat_
open Go.RowKit

/-- Numbers of at most 2048 limbs: those below this one. -/
@[irreducible] def Lim : Nat := 18446744073709551616 ^ 2048
theorem lim_iff (n : Nat) : (limbs n).length ≤ 2048 ↔ n < Lim := by unfold Lim; exact limbs_len 2048 n
theorem lim_small (n k : Nat) (hk : k ≤ 2048) (h : n < 18446744073709551616 ^ k) : n < Lim := (lim_iff n).1 (Nat.le_trans ((limbs_len k n).2 h) hk)
def nl (n : Nat) : Nat := (limbs n).length
theorem nl_zero (n : Nat) : nl n = 0 ↔ n = 0 := by unfold nl; rw [List.length_eq_zero_iff, limbs_nil]
/-- The value v is a slice of limbs that tell the number n. -/
def Nm (w : World) (v : Value) (n : Nat) : Prop := ∃ l, Lb w v l ∧ val l = n ∧ l.length ≤ 1000000
/-- The value v is the number n in its normal form, in memory made from block B on. -/
def NN (B : Nat) (w : World) (v : Value) (n : Nat) : Prop := Ow B w v (limbs n) ∧ nl n ≤ 1000000
theorem NN.nm {B : Nat} {w : World} {v : Value} {n : Nat} (h : NN B w v n) : Nm w v n := ⟨limbs n, h.1.lb, val_limbs n, h.2⟩
theorem Nm.below {w w' : World} {v : Value} {n : Nat} (h : Nm w v n) (hb : Below w.heap.size w w') : Nm w' v n := by
  obtain ⟨l, hl, e⟩ := h
  exact ⟨l, hl.below hb, e⟩
theorem NN.below {B : Nat} {w w' : World} {v : Value} {n : Nat} (h : NN B w v n) (hb : Below w.heap.size w w') : NN B w' v n := ⟨Ow.below h.1 hb, h.2⟩
theorem NN.ge {B C : Nat} {w : World} {v : Value} {n : Nat} (h : NN B w v n) (hb : C ≤ B) : NN C w v n := ⟨Ow.ge h.1 hb, h.2⟩
theorem Nm.nil (w : World) : Nm w (.slice none 0 0) 0 := ⟨[], Lb.nil w, rfl, by simp⟩
theorem NN.nil (B : Nat) (w : World) : NN B w (.slice none 0 0) 0 := ⟨Ow.nil B w, by decide⟩
theorem Nm.slice {w : World} {v : Value} {n : Nat} (h : Nm w v n) : ∃ a len cap, v = .slice a len cap ∧ len ≤ cap ∧ cap ≤ maxLen ∧ len ≤ 1000000 := by
  obtain ⟨l, ⟨a, len, cap, e, h1, h2, h3, h0, -⟩, -, h4⟩ := h
  exact ⟨a, len, cap, e, h2, h3, by omega⟩
theorem NN.slice {B : Nat} {w : World} {v : Value} {n : Nat} (h : NN B w v n) : ∃ a cap, v = .slice a (nl n) cap := Ow.slice h.1
theorem NN.size {B : Nat} {w : World} {v : Value} {n : Nat} (h : NN B w v n) : nl n ≤ 1000000 := h.2

set_option maxHeartbeats 1000000 in
theorem normal_lb (v : Value) (l : List Nat) (w : World) (h : Lb w v l) :
    Calls Tryz.prog 58 #[v] w fun e w' => ∃ a c, e = .returned (.slice a (nl (val l)) c) ∧ Ow w.heap.size w' (.slice a (nl (val l)) c) (limbs (val l)) ∧ Below w.heap.size w w' := by
  have h' := h
  obtain ⟨a, len, cap, rfl, h1, h2, h3, h0, h4, h5⟩ := h
  unfold maxLen at h3
  have ht := trim_limbs l h4
  have A : Go.Aside (∀ x ∈ l, x < 18446744073709551616) := h4
  clear h4
  go_enter Tryz.func58, Tryz.ntmps58
  go_wp2
  go_loop [3] (fun i => ∃ j : Nat, j ≤ len ∧ i = .int .i64 (j : Int) ∧ Hid (trim (l.take j) = limbs (val l))) (fun i => (intOf i).toNat)
  case atStart => exact ⟨len, Nat.le_refl _, rfl, by show _ = _; rw [List.take_of_length_le (by omega), ht]⟩
  case round =>
    obtain ⟨j, hj, rfl, HT⟩ := hrel
    cases j with
    | zero =>
      have hl : (l.take 0).length = 0 := rfl
      have hT : limbs (val l) = [] := by rw [← HT.out]; rfl
      have hz : val l = 0 := (limbs_nil _).1 hT
      go_wp2_with fail
      refine (clone_any _ _ _ [] _ ⟨a, 0, 0, rfl, rfl, Nat.le_refl _, Nat.zero_le _, by decide, by simp, fun h => absurd h (by decide)⟩).mono ?_
      rintro e w' ⟨v, rfl, ho, hb⟩
      go_wp2
      go_ret
      obtain ⟨a', c', rfl⟩ := ho.slice
      refine ⟨a', c', ?_, ?_, hb⟩
      · rw [hz]; rfl
      · rw [hz]; exact ho
    | succ k =>
      obtain ⟨b, off, ha, hbw, hc⟩ := h5 (by omega)
      subst ha
      have hk : k < l.length := by omega
      have hck := hc k _ (List.getElem?_eq_getElem hk)
      unfold limbV at hck
      by_cases hx : l[k] = 0
      · rw [hx] at hck
        go_wp2
        go_round
        case rel => exact ⟨k, by omega, by simp, by show _ = _; rw [← HT.out]; exact (trim_take l k hk (by rw [List.getElem?_eq_getElem hk, hx])).symm⟩
        case measure => simp [intOf]
      · have hs := trim_stop l k l[k] hk (List.getElem?_eq_getElem hk) hx
        have hle : k + 1 ≤ len := hj
        have hlen : (limbs (val l)).length = k + 1 := by
          rw [← HT.out, hs, List.length_take]; omega
        have hlt := A.out l[k] (List.getElem_mem hk)
        generalize l[k] = x at *
        go_wp2_with fail
        refine (clone_any _ _ _ (l.take (k + 1)) _ (h'.take (k + 1) (k + 1) (by omega) (Nat.le_refl _) (by unfold maxLen; omega))).mono ?_
        rintro e w' ⟨v, rfl, ho, hb⟩
        go_wp2
        go_ret
        rw [← hs, HT.out] at ho
        obtain ⟨a', c', rfl⟩ := ho.slice
        exact ⟨a', c', rfl, ho, hb⟩
theorem normal_any (v : Value) (n : Nat) (w : World) (h : Nm w v n) :
    Calls Tryz.prog 58 #[v] w fun e w' => ∃ a c, e = .returned (.slice a (nl n) c) ∧ NN w.heap.size w' (.slice a (nl n) c) n ∧ Below w.heap.size w w' := by
  obtain ⟨l, hl, rfl, hs⟩ := h
  refine (normal_lb v l w hl).mono ?_
  rintro e w' ⟨a, c, rfl, ho, hb⟩
  have := trim_limbs l hl.lt
  have h2 := trim_le l
  exact ⟨a, c, rfl, ⟨ho, by unfold nl; rw [← this]; omega⟩, hb⟩
end Go.Proofs.YtpnllalefpkcjaaGreatDoor.Nat_

namespace Go.Proofs.YtpnllalefpkcjaaGreatDoor.Nat_
open Go.RowKit

theorem nl_iff (n : Nat) : nl n ≤ 2048 ↔ n < Lim := lim_iff n
/-- What a function tells of the number n: n in its normal form, or that it is too long. -/
def Told (B : Nat) (w : World) (n : Nat) (e : Ending) : Prop :=
  (n < Lim ∧ ∃ a c, e = .returned (.tuple #[.slice a (nl n) c, .int .i64 0]) ∧ NN B w (.slice a (nl n) c) n) ∨
  (Lim ≤ n ∧ e = .returned (.tuple #[.slice none 0 0, .int .i64 3]))
theorem Told.ok {B : Nat} {w : World} {n : Nat} {e : Ending} (h : Told B w n e) (hn : n < Lim) : ∃ a c, e = .returned (.tuple #[.slice a (nl n) c, .int .i64 0]) ∧ NN B w (.slice a (nl n) c) n := by
  rcases h with ⟨-, h⟩ | ⟨h, -⟩
  · exact h
  · omega
theorem Told.long {B : Nat} {w : World} {n : Nat} {e : Ending} (h : Told B w n e) (hn : Lim ≤ n) : e = .returned (.tuple #[.slice none 0 0, .int .i64 3]) := by
  rcases h with ⟨h, -⟩ | ⟨-, h⟩
  · omega
  · exact h
theorem Told.ge {B C : Nat} {w : World} {n : Nat} {e : Ending} (h : Told B w n e) (hb : C ≤ B) : Told C w n e := by
  rcases h with ⟨h, a, c, h1, h2⟩ | h
  · exact .inl ⟨h, a, c, h1, h2.ge hb⟩
  · exact .inr h

set_option maxHeartbeats 1000000 in
theorem told_lb (v : Value) (l : List Nat) (n : Nat) (w : World) (h : Lb w v l) (hv : val l = n) :
    Calls Tryz.prog 56 #[v] w fun e w' => Told w.heap.size w' n e ∧ Below w.heap.size w w' := by
  have hi := nl_iff n
  have hz := nl_zero n
  go_enter Tryz.func56, Tryz.ntmps56
  go_wp2_with fail
  refine (normal_lb v l _ h).mono ?_
  rw [hv]
  rintro e w' ⟨a, c, rfl, ho, hb⟩
  have hs : nl n ≤ 4000000 := ho.2.1
  by_cases h1 : nl n ≤ 2048
  · by_cases h2 : nl n = 0
    · have hn := hz.1 h2
      rw [h2] at ho ⊢
      go_wp2
      go_ret2
      refine ⟨.inl ⟨by omega, none, 0, ?_, ?_⟩, hb⟩
      · rw [h2]; rfl
      · subst hn
        exact NN.nil _ _
    · have hl := hi.1 h1
      go_wp2
      go_ret2
      exact ⟨.inl ⟨hl, a, c, rfl, ho, by omega⟩, hb⟩
  · have hl : Lim ≤ n := by omega
    clear hi hz
    have HL := Lib.hid hl
    clear hl
    go_wp2
    go_ret2
    exact ⟨.inr ⟨HL.out, rfl⟩, hb⟩
theorem told_any (v : Value) (n : Nat) (w : World) (h : Nm w v n) :
    Calls Tryz.prog 56 #[v] w fun e w' => Told w.heap.size w' n e ∧ Below w.heap.size w w' := by
  obtain ⟨l, hl, hv, -⟩ := h
  exact told_lb v l n w hl hv
theorem norm_any (v : Value) (n : Nat) (w : World) (h : Nm w v n) :
    Calls Tryz.prog 42 #[v] w fun e w' => Told w.heap.size w' n e ∧ Below w.heap.size w w' := by
  go_enter Tryz.func42, Tryz.ntmps42
  go_wp2_with fail
  refine (told_any v n _ h).mono ?_
  rintro e w' ⟨⟨hl, a, c, rfl, ho⟩ | ⟨hl, rfl⟩, hb⟩
  · go_wp2
    go_ret2
    exact ⟨.inl ⟨hl, a, c, rfl, ho⟩, hb⟩
  · go_wp2
    go_ret2
    exact ⟨.inr ⟨hl, rfl⟩, hb⟩
/-- Cells laid anew hold a number of one limb. -/
theorem Nm.one (w : World) (e : TypeId) (x : Nat) (hx : x < 18446744073709551616) : Nm (w.alloc (.cells #[.int .u64 (x : Int)] e)) (.slice (some ⟨w.heap.size, 0, none⟩) 1 1) x := by
  refine ⟨[x], ⟨_, _, _, rfl, rfl, Nat.le_refl _, by unfold maxLen; decide, by decide, by simpa using hx, fun _ => ⟨w.heap.size, 0, rfl, by simp, fun i y hi => ?_⟩⟩, by simp [val], by simp⟩
  match i, hi with
  | 0, hi =>
    obtain rfl : x = y := by simpa using hi
    exact (Blk.new w e [.int .u64 (x : Int)]).cell 0
theorem of_any (x : Nat) (w : World) (hx : x < 18446744073709551616) :
    Calls Tryz.prog 37 #[.int .u64 (x : Int)] w fun e w' => ∃ a c, e = .returned (.slice a (nl x) c) ∧ NN w.heap.size w' (.slice a (nl x) c) x ∧ Below w.heap.size w w' := by
  go_enter Tryz.func37, Tryz.ntmps37
  go_wp2_with fail
  refine (told_any _ x _ (Nm.one w _ x hx)).mono ?_
  rintro e w' ⟨ht, hb⟩
  obtain ⟨a, c, rfl, ho⟩ := ht.ok (lim_small x 1 (by decide) (by simpa using hx))
  go_wp2
  go_ret
  have hb0 := (Below.refl w.heap.size w).alloc (Nat.le_refl _) (.cells #[.int .u64 (x : Int)] 26)
  exact ⟨a, c, rfl, ho.ge (by simp), hb0.trans (hb.mono (by simp))⟩

/-! long -/
def Nms (w : World) (b off : Nat) (vs : List Value) (ns : List Nat) : Prop :=
  b < w.heap.size ∧ vs.length = ns.length ∧ (∀ (i : Nat) (v : Value), vs[i]? = some v → w.cell? ⟨b, off + i, none⟩ = some v) ∧ ∀ (i : Nat) (v : Value) (n : Nat), vs[i]? = some v → ns[i]? = some n → Nm w v n
theorem Nms.below {w w' : World} {b off : Nat} {vs : List Value} {ns : List Nat} (h : Nms w b off vs ns) (hb : Below w.heap.size w w') : Nms w' b off vs ns :=
  ⟨Nat.lt_of_lt_of_le h.1 hb.size, h.2.1, fun i v hi => (hb.cell (p := ⟨b, off + i, none⟩) h.1).trans (h.2.2.1 i v hi), fun i v n hi hn => (h.2.2.2 i v n hi hn).below hb⟩
theorem longf_any (v : Value) (n : Nat) (w : World) (h : Nm w v n) :
    Calls Tryz.prog 76 #[v] w fun e w' => e = .returned (.bool (decide (Lim ≤ n))) ∧ Below w.heap.size w w' := by
  have hi := nl_iff n
  go_enter Tryz.func76, Tryz.ntmps76
  go_wp2_with fail
  refine (normal_any v n _ h).mono ?_
  rintro e w' ⟨a, c, rfl, ho, hb⟩
  go_wp2
  go_ret
  refine ⟨ret_bool ?_, hb⟩
  rw [decide_eq_decide]
  omega
set_option maxHeartbeats 1000000 in
theorem index_any (b off len cap : Nat) (vs : List Value) (ns : List Nat) (w : World) (h : Nms w b off vs ns) (hl : vs.length = len) (hlen : len ≤ 1000) (hlc : len ≤ cap) :
    Calls Tryz.prog 91 #[.slice (some ⟨b, off, none⟩) len cap, .func (.func 76) #[] #[]] w fun e w' =>
      ∃ k : Int, e = .returned (.int .i64 k) ∧ decide (0 ≤ k) = (ns.any fun n => decide (Lim ≤ n)) ∧ Below w.heap.size w w' := by
  go_enter Tryz.func91, Tryz.ntmps91
  go_wp2
  go_loopw [8] (fun i wr => ∃ j : Nat, j ≤ len ∧ i = .int .i64 (j : Int) ∧ Hid (∀ n ∈ ns.take j, ¬ Lim ≤ n) ∧ Below w.heap.size w wr) (fun i _ => len - (intOf i).toNat)
  case atStart => exact ⟨0, Nat.zero_le _, rfl, by intro n hn; simp at hn, Below.refl _ _⟩
  case round =>
    obtain ⟨j, hj, rfl, HN, hB⟩ := hrel
    have hw := h.below hB
    by_cases hlt : j < len
    · have hjv : j < vs.length := by omega
      have hjn : j < ns.length := by have := h.2.1; omega
      have hcell := hw.2.2.1 j _ (List.getElem?_eq_getElem hjv)
      have hnm := hw.2.2.2 j _ _ (List.getElem?_eq_getElem hjv) (List.getElem?_eq_getElem hjn)
      have e1 : ns.take (j + 1) = ns.take j ++ [ns[j]] := List.take_succ_eq_append_getElem hjn
      have e2 : ns[j] ∈ ns := List.getElem_mem hjn
      generalize vs[j] = v at *
      generalize ns[j] = n at *
      go_wp2_with fail
      refine (longf_any v n _ hnm).mono ?_
      rintro e w' ⟨rfl, hb⟩
      have hB' := hB.trans (hb.mono hB.size)
      by_cases hL : Lim ≤ n
      · rw [decide_eq_true hL]
        go_wp2
        go_ret
        refine ⟨_, rfl, ?_, hB'⟩
        have : (ns.any fun n => decide (Lim ≤ n)) = true := List.any_eq_true.2 ⟨n, e2, by simpa using hL⟩
        rw [this]
        simp
      · rw [decide_eq_false hL]
        go_wp2
        go_round
        case rel =>
          refine ⟨j + 1, by omega, by simp, ?_, hB'⟩
          intro m hm
          rw [e1] at hm
          rcases List.mem_append.1 hm with hm | hm
          · exact HN m hm
          · obtain rfl : m = n := by simpa using hm
            exact hL
        case measure => simp [intOf]; omega
    · obtain rfl : j = len := by omega
      go_wp2
      go_ret
      refine ⟨_, rfl, ?_, hB⟩
      have : (ns.any fun n => decide (Lim ≤ n)) = false := by
        rw [List.any_eq_false]
        intro n hn
        have := HN n (by rw [List.take_of_length_le (by have := h.2.1; rw [← this]; exact Nat.le_of_eq hl)]; exact hn)
        simpa using this
      rw [this]
      simp
theorem contains_any (b off len cap : Nat) (vs : List Value) (ns : List Nat) (w : World) (h : Nms w b off vs ns) (hl : vs.length = len) (hlen : len ≤ 1000) (hlc : len ≤ cap) :
    Calls Tryz.prog 75 #[.slice (some ⟨b, off, none⟩) len cap, .func (.func 76) #[] #[]] w fun e w' =>
      e = .returned (.bool (ns.any fun n => decide (Lim ≤ n))) ∧ Below w.heap.size w w' := by
  go_enter Tryz.func75, Tryz.ntmps75
  go_wp2_with fail
  refine (index_any b off len cap vs ns _ h hl hlen hlc).mono ?_
  rintro e w' ⟨k, rfl, hk, hb⟩
  go_wp2
  go_ret
  refine ⟨ret_bool ?_, hb⟩
  rw [← hk]
theorem long_any (b off len cap : Nat) (vs : List Value) (ns : List Nat) (w : World) (h : Nms w b off vs ns) (hl : vs.length = len) (hlen : len ≤ 1000) (hlc : len ≤ cap) :
    Calls Tryz.prog 57 #[.slice (some ⟨b, off, none⟩) len cap] w fun e w' => e = .returned (.bool (ns.any fun n => decide (Lim ≤ n))) ∧ Below w.heap.size w w' := by
  go_enter Tryz.func57, Tryz.ntmps57
  go_wp2_with fail
  refine (contains_any b off len cap vs ns _ h hl hlen hlc).mono ?_
  rintro e w' ⟨rfl, hb⟩
  go_wp2
  go_ret
  exact ⟨rfl, hb⟩
theorem long1_any (v : Value) (n : Nat) (w0 w : World) (e : TypeId) (hw : w = w0.alloc (.cells #[v] e)) (h : Nm w0 v n) :
    Calls Tryz.prog 57 #[.slice (some ⟨w0.heap.size, 0, none⟩) 1 1] w fun e w' => e = .returned (.bool (decide (Lim ≤ n))) ∧ Below w.heap.size w w' := by
  subst hw
  have hb0 := (Below.refl w0.heap.size w0).alloc (Nat.le_refl _) (.cells #[v] e)
  refine (long_any w0.heap.size 0 1 1 [v] [n] _ ⟨by simp, rfl, ?_, ?_⟩ rfl (by decide) (Nat.le_refl _)).mono ?_
  · intro i u hi
    rw [Nat.zero_add]
    exact ((Blk.new w0 e [v]).cell i).trans hi
  · intro i u m hi hm
    match i, hi, hm with
    | 0, hi, hm =>
      obtain rfl : v = u := by simpa using hi
      obtain rfl : n = m := by simpa using hm
      exact h.below hb0
  · rintro e w' ⟨rfl, hb⟩
    exact ⟨by simp, hb⟩
theorem long2_any (v u : Value) (n m : Nat) (w0 w : World) (e : TypeId) (hw : w = w0.alloc (.cells #[v, u] e)) (h : Nm w0 v n) (h' : Nm w0 u m) :
    Calls Tryz.prog 57 #[.slice (some ⟨w0.heap.size, 0, none⟩) 2 2] w fun e w' => e = .returned (.bool (decide (Lim ≤ n) || decide (Lim ≤ m))) ∧ Below w.heap.size w w' := by
  subst hw
  have hb0 := (Below.refl w0.heap.size w0).alloc (Nat.le_refl _) (.cells #[v, u] e)
  refine (long_any w0.heap.size 0 2 2 [v, u] [n, m] _ ⟨by simp, rfl, ?_, ?_⟩ rfl (by decide) (Nat.le_refl _)).mono ?_
  · intro i x hi
    rw [Nat.zero_add]
    exact ((Blk.new w0 e [v, u]).cell i).trans hi
  · intro i x y hi hm
    match i, hi, hm with
    | 0, hi, hm =>
      obtain rfl : v = x := by simpa using hi
      obtain rfl : n = y := by simpa using hm
      exact h.below hb0
    | 1, hi, hm =>
      obtain rfl : u = x := by simpa using hi
      obtain rfl : m = y := by simpa using hm
      exact h'.below hb0
  · rintro e w' ⟨rfl, hb⟩
    exact ⟨by simp, hb⟩
theorem long2_yes (v u : Value) (n m : Nat) (w0 w : World) (e : TypeId) (hw : w = w0.alloc (.cells #[v, u] e)) (h : Nm w0 v n) (h' : Nm w0 u m) (hL : Lim ≤ n ∨ Lim ≤ m) :
    Calls Tryz.prog 57 #[.slice (some ⟨w0.heap.size, 0, none⟩) 2 2] w fun e w' => e = .returned (.bool true) ∧ Below w.heap.size w w' := by
  refine (long2_any v u n m w0 w e hw h h').mono ?_
  rintro e w' ⟨rfl, hb⟩
  refine ⟨ret_bool ?_, hb⟩
  rcases hL with h | h <;> simp [h]
theorem long2_no (v u : Value) (n m : Nat) (w0 w : World) (e : TypeId) (hw : w = w0.alloc (.cells #[v, u] e)) (h : Nm w0 v n) (h' : Nm w0 u m) (hn : n < Lim) (hm : m < Lim) :
    Calls Tryz.prog 57 #[.slice (some ⟨w0.heap.size, 0, none⟩) 2 2] w fun e w' => e = .returned (.bool false) ∧ Below w.heap.size w w' := by
  refine (long2_any v u n m w0 w e hw h h').mono ?_
  rintro e w' ⟨rfl, hb⟩
  refine ⟨ret_bool ?_, hb⟩
  simp [hn, hm]
theorem long1_yes (v : Value) (n : Nat) (w0 w : World) (e : TypeId) (hw : w = w0.alloc (.cells #[v] e)) (h : Nm w0 v n) (hL : Lim ≤ n) :
    Calls Tryz.prog 57 #[.slice (some ⟨w0.heap.size, 0, none⟩) 1 1] w fun e w' => e = .returned (.bool true) ∧ Below w.heap.size w w' := by
  refine (long1_any v n w0 w e hw h).mono ?_
  rintro e w' ⟨rfl, hb⟩
  exact ⟨ret_bool (by simp [hL]), hb⟩
theorem long1_no (v : Value) (n : Nat) (w0 w : World) (e : TypeId) (hw : w = w0.alloc (.cells #[v] e)) (h : Nm w0 v n) (hL : n < Lim) :
    Calls Tryz.prog 57 #[.slice (some ⟨w0.heap.size, 0, none⟩) 1 1] w fun e w' => e = .returned (.bool false) ∧ Below w.heap.size w w' := by
  refine (long1_any v n w0 w e hw h).mono ?_
  rintro e w' ⟨rfl, hb⟩
  exact ⟨ret_bool (by simp [hL]), hb⟩
end Go.Proofs.YtpnllalefpkcjaaGreatDoor.Nat_

namespace Go.Proofs.YtpnllalefpkcjaaGreatDoor
open Go.RowKit

section
variable {P : Program} {ops : Array Oper} {md : Region.Mode} {w : World}
theorem wpIn_of_still {m : Nat} {o : Oper} {a : Act} {K : Act → Prop} {K' : Act → World → Prop} {Q' : Exit → Act → World → Prop} (h : ∀ a, K a → K' a w) (hh : o.still P a w K) : o.wpIn Fence.wide m P a w K' Q' := by
  unfold Oper.still at hh
  refine ⟨fun _ _ => trivial, ?_⟩
  show o.uponIn Fence.wide m P a K' Q' ((execOp a.eval o).run P w)
  generalize (execOp a.eval o).run P w = r at *
  cases r with
  | ok n w' =>
    cases n <;> simp only [Oper.stillUpon] at hh <;> simp only [Oper.uponIn]
    case enter f args =>
      obtain ⟨rfl, v, hc, hn⟩ := hh
      refine ⟨fun h => by simp [Fence.wide] at h, callsIn_wide.2 (hc.mono fun e w'' ⟨he, hw⟩ => by subst he; subst hw; exact h _ hn)⟩
    all_goals (obtain ⟨rfl, h2⟩ := hh; exact h _ h2)
  | halt x w' => simp only [Oper.stillUpon] at hh
theorem wpOpIn_of_stOp {m i : Nat} {a : Act} {K : Act → Prop} {K' : Act → World → Prop} {Q' : Exit → Act → World → Prop} (h : ∀ a, K a → K' a w) (hh : stOp P ops w i K a) : wpOpIn Fence.wide m P ops Q' i K' a w := by
  unfold stOp at hh
  unfold wpOpIn
  split
  · rename_i ho; simp only [ho] at hh; exact h _ hh
  · rename_i o ho
    simp only [ho] at hh
    split
    · rename_i hw; simp only [hw, if_true] at hh; exact wpIn_of_still h hh
    · rename_i hw; simp only [hw] at hh; exact ⟨fun _ _ => trivial, h _ hh⟩
theorem wpAnyIn_of_head {m n g : Nat} {L : Array Bool → Act → Prop} {Q' : Exit → Act → World → Prop} (hL : ∀ listed a, L listed a → wpAnyIn Fence.wide m P md ops Q' g listed a w) :
    ∀ (f : Nat) (listed : Array Bool) (a : Act), wpAnyL P md ops w n L f listed a → wpAnyIn Fence.wide m P md ops Q' (f + g) listed a w
  | 0, listed, a, h => by rw [Nat.zero_add]; exact hL _ _ h
  | f + 1, listed, a, h => by
    rw [show f + 1 + g = (f + g) + 1 by omega]
    exact ⟨fun h0 => absurd h0 h.1, fun i hi => wpOpIn_of_stOp (fun a' h' => wpAnyIn_of_head hL f _ a' h') (h.2 i hi).2⟩
theorem wpAnyIn_of_seq {m : Nat} {Q' : Exit → Act → World → Prop} : ∀ (l : List Oper) (k : Nat) (listed : Array Bool) (a : Act) (w : World), (∀ j, l[j]? = ops[k + j]?) →
    Region.seqB md ops l.length k listed = true → wpListIn Fence.wide m P ops Q' l a w → wpAnyIn Fence.wide m P md ops Q' l.length listed a w
  | [], _, _, _, _, _, hB, h => ⟨by simpa [Region.seqB] using hB, h⟩
  | o :: l, k, listed, a, w, hl, hB, h => by
    have h0 : ops[k]? = some o := by simpa using (hl 0).symm
    simp only [List.length_cons, Region.seqB, Bool.and_eq_true, decide_eq_true_eq] at hB
    refine ⟨fun h1 => (by rw [hB.1] at h1; cases h1), fun i hi => ?_⟩
    rw [hB.1] at hi
    have hik : i = k := by simpa using hi
    subst hik
    have hw : wpOpIn Fence.wide m P ops Q' i (wpListIn Fence.wide m P ops Q' l) a w := by unfold wpOpIn; simp only [h0]; exact h
    exact wpOpIn_mono (fun a' w' h' => wpAnyIn_of_seq l (i + 1) _ a' w' (fun j => by have := hl (j + 1); simpa [Nat.add_assoc, Nat.add_comm 1 j] using this) hB.2 h') hw
theorem wpIn_region_still_tail {m id : Nat} {Q : Exit → Act → World → Prop} {a : Act} {w : World} {l : List Oper} (n : Nat) (hm : P.follows .mixedOrders = true) (hB : Region.lexTailB .any l.toArray n = true)
    (h : wpStill P l.toArray w.drew (fun a' => wpListIn Fence.wide m P l.toArray Q (l.drop n) a' w.drew) (l.take n) a) : (Code.region id l.toArray true).wpIn Fence.wide m P Q a w := by
  simp only [Region.lexTailB, Bool.and_eq_true, decide_eq_true_eq] at hB
  obtain ⟨⟨⟨⟨hsel, hn⟩, hs⟩, hc⟩, hlex⟩ := hB
  have hn' : n < l.length := by simpa using hn
  have htl : (l.take n).length = n := by simp; omega
  have hdl : (l.drop n).length = l.toArray.size - n := by simp
  have inv0 : HeadInv .any l.toArray n (Array.replicate l.toArray.size false) :=
    ⟨by simp, fun j oj _ hl => (by rw [getD_replicate_false] at hl; cases hl), fun t _ ht => getD_in (by simpa using ht) (getD_replicate_false _ _)⟩
  have H := wpAnyL_lex (md := .any) (g := l.toArray.size - n) hsel hs hc hn (l.take n) 0 _ a (fun j hj => by
    have hj' : j < n := by rw [htl] at hj; exact hj
    simp [hj']) (by simpa using htl) inv0 (by rw [htl]; exact hlex) h
  refine wpIn_region_any hm ?_
  have := wpAnyIn_of_head (m := m) (Q' := Q) (g := l.toArray.size - n) (fun listed a' hL => by
    have := wpAnyIn_of_seq (m := m) (md := .any) (Q' := Q) (l.drop n) n listed a' w.drew (fun j => by simp [List.getElem?_drop]) (by rw [hdl]; exact hL.1) hL.2
    rwa [hdl] at this) _ _ _ H
  rw [htl, show n + (l.toArray.size - n) = l.toArray.size by omega] at this
  exact this
end
end Go.Proofs.YtpnllalefpkcjaaGreatDoor

namespace Go.Proofs.YtpnllalefpkcjaaGreatDoor.Nat_
open Go.ChangeShapes Go.WideShapes Go.ChangeAt Go.RowKit

/-- A slice of limbs as it came in, however long. -/
def RawNat (w : World) (v : Value) (l : List Nat) : Prop :=
  ∃ a len cap, v = .slice a len cap ∧ l.length = len ∧ len ≤ cap ∧ cap ≤ maxLen ∧ (∀ x ∈ l, x < 18446744073709551616) ∧
    (0 < len → ∃ b off, a = some ⟨b, off, none⟩ ∧ b < w.heap.size ∧ ∀ i x, l[i]? = some x → w.cell? ⟨b, off + i, none⟩ = some (limbV x))
theorem RawNat.lb {w : World} {v : Value} {l : List Nat} (h : RawNat w v l) (hs : l.length ≤ 4000000) : Lb w v l := by
  obtain ⟨a, len, cap, e, h1, h2, h3, h4, h5⟩ := h
  exact ⟨a, len, cap, e, h1, h2, h3, by omega, h4, h5⟩
theorem RawNat.below {w w' : World} {v : Value} {l : List Nat} (h : RawNat w v l) {B : Nat} (hb : Below B w w') (hB : w.heap.size ≤ B) : RawNat w' v l := by
  obtain ⟨a, len, cap, e, h1, h2, h3, h4, h5⟩ := h
  refine ⟨a, len, cap, e, h1, h2, h3, h4, fun h0 => ?_⟩
  obtain ⟨b, off, ha, hbw, hc⟩ := h5 h0
  exact ⟨b, off, ha, Nat.lt_of_lt_of_le hbw hb.size, fun i x hi => (hb.cell (p := ⟨b, off + i, none⟩) (Nat.lt_of_lt_of_le hbw hB)).trans (hc i x hi)⟩
section
variable {H : Type} {enc : TypeId × Value → H} {P : Program} {w : World} {base : Nat} {held : Bool}
theorem raw_of_ints {a : Option Addr} {len cap : Nat} {zs : List Int} (h : IsInts .u64 w a len cap zs) : RawNat w (.slice a len cap) (zs.map Int.toNat) := by
  obtain ⟨⟨h1, h2, h3, h4⟩, h5⟩ := h
  have hb : ∀ n ∈ zs, 0 ≤ n ∧ n < 18446744073709551616 := by
    intro n hn
    have := bounds_u64 (h5 n hn)
    omega
  refine ⟨a, len, cap, rfl, by simpa using h1, h2, h3, ?_, fun h0 => ?_⟩
  · intro x hx
    obtain ⟨n, hn, rfl⟩ := List.mem_map.1 hx
    have := hb n hn
    omega
  · obtain ⟨b, off, ha, hbw, hc⟩ := h4 h0
    refine ⟨b, off, ha, hbw, fun i x hi => hc i _ ?_⟩
    rw [List.getElem?_map] at hi ⊢
    cases hq : zs[i]? with
    | none => rw [hq] at hi; cases hi
    | some n =>
      rw [hq] at hi
      injection hi with hi
      have := hb n (List.mem_of_getElem? hq)
      rw [Option.map_some, ← hi]
      unfold limbV
      congr 2
      omega
theorem nat_field {t e : TypeId} {c : Value} {fuel : Nat} {x : DataW H × List MemPlace} (ht : P.underlying t = some (.slice e)) (he : P.underlying e = some (.int .u64)) (hC : P.cellsOf e = 1)
    (h : DataW.trod enc P w base (fun _ => true) held fuel t [c] = some x) : ∃ z, RawNat w c z := by
  have hs : ∃ a l m, c = .slice a l m := by
    rcases Deep.open_slice ht h with ⟨hcs, _⟩ | ⟨y, l, c', m, n, D, Pl, hcs, _⟩
    · exact ⟨none, 0, 0, by simpa using hcs⟩
    · exact ⟨some y, l, c', by simpa using hcs⟩
  obtain ⟨a, l, m, rfl⟩ := hs
  obtain ⟨zs, hz⟩ := is_ints (d := x.1) (p := x.2) ht he hC ⟨fuel, h⟩
  exact ⟨_, raw_of_ints hz⟩
end
end Go.Proofs.YtpnllalefpkcjaaGreatDoor.Nat_
