/-
Contract of the reader's place: integers as Data tell them.
-/
import Derived.Test.YtpnllalefpkcjaaGreatDoorStoreDraw
import Derived.Test.YtpnllalefpkcjaaGreatDoorStoreRead3
import Derived.Test.YtpnllalefpkcjaaGreatDoorNotchA
namespace Go.Proofs.YtpnllalefpkcjaaGreatDoor.Store
open Go.RowKit Nat_ Notch

/-- The integer that zint.Parse tells of a text (0 where it tells an error). -/
def zparV (l : List UInt8) : Bool × Nat :=
  if (Lib.trimPrefix l [45]).length ≤ 40000 ∧ Lib.trimPrefix l [45] ≠ [] ∧ (∀ c ∈ Lib.trimPrefix l [45], isDig c = true) ∧ parseL (Lib.trimPrefix l [45]) < Lim then
    (Lib.hasPrefix l [45] && decide (parseL (Lib.trimPrefix l [45]) ≠ 0), parseL (Lib.trimPrefix l [45])) else (false, 0)
theorem zparsed_val {B : Nat} {w : World} {l : List UInt8} {e : Ending} (h : ZParsed B w l e) :
    ∃ a c, ∃ k : Int, e = .returned (.tuple #[.agg #[.bool (zparV l).1, .slice a (nl (zparV l).2) c], .int .i64 k]) ∧ NN B w (.slice a (nl (zparV l).2) c) (zparV l).2 := by
  have hz : ∀ k : Int, e = .returned (.tuple #[zeroZ, .int .i64 k]) → zparV l = (false, 0) → ∃ a c, ∃ k : Int, e = .returned (.tuple #[.agg #[.bool (zparV l).1, .slice a (nl (zparV l).2) c], .int .i64 k]) ∧ NN B w (.slice a (nl (zparV l).2) c) (zparV l).2 := by
    intro k h1 h2
    rw [h2]
    exact ⟨none, 0, k, h1, NN.nil B w⟩
  unfold ZParsed at h
  rcases h with ⟨h1, h2⟩ | ⟨h1, h2, h3⟩ | ⟨h1, h2, h3, ⟨h4, a, c, h5, h6⟩ | ⟨h4, h5⟩⟩
  · exact hz 3 h2 (if_neg (by omega))
  · refine hz 5 h3 (if_neg ?_)
    rintro ⟨-, k2, k3, -⟩
    rcases h2 with h2 | ⟨c, hc, hd⟩
    · exact k2 h2
    · rw [k3 c hc] at hd; exact absurd hd (by decide)
  · have : zparV l = (Lib.hasPrefix l [45] && decide (parseL (Lib.trimPrefix l [45]) ≠ 0), parseL (Lib.trimPrefix l [45])) := if_pos ⟨h1, h2, h3, h4⟩
    rw [this]
    exact ⟨a, c, 0, h5, h6⟩
  · exact hz 3 h5 (if_neg (by omega))
/-- What a place's reader tells: the integers, what is left, whether it is bad. -/
def placeF : Nat → ByteArray → Bool → List (Bool × Nat) × ByteArray × Bool
  | 0, s, b => ([], s, b)
  | n + 1, s, b => if b then ([], s, true) else
    ((zparV (textR s b 65536).1.data.toList) :: (placeF n (textR s b 65536).2.1 (textR s b 65536).2.2).1, (placeF n (textR s b 65536).2.1 (textR s b 65536).2.2).2)
def placeR (s : ByteArray) (b : Bool) : List (Bool × Nat) × ByteArray × Bool :=
  if 200 < (numR s b).1 then ([], (numR s b).2) else placeF (numR s b).1 (numR s b).2.1 (numR s b).2.2
theorem placeF_bad (n : Nat) (s : ByteArray) : placeF n s true = ([], s, true) := by cases n <;> rfl
theorem placeF_succ (n : Nat) (s : ByteArray) : placeF (n + 1) s false = ((zparV (textR s false 65536).1.data.toList) :: (placeF n (textR s false 65536).2.1 (textR s false 65536).2.2).1, (placeF n (textR s false 65536).2.1 (textR s false 65536).2.2).2) := rfl
theorem own_grown {B : Nat} {w w' : World} {g : Nat} {e : TypeId} {size : Nat} {v : Value} {k : Nat} {xs : List Value} (h : w.ownsRow B e size v k xs) (hg : w.grownBy w' (some g)) (hgB : g < B) : w'.ownsRow B e size v k xs := by
  obtain ⟨h0, h1⟩ := h
  refine ⟨h0, ?_⟩
  rcases h1 with h1 | ⟨q, cap, cur, e, hB, hq, hr⟩
  · exact .inl h1
  · exact .inr ⟨q, cap, cur, e, hB, (hg.block q (Array.getElem?_eq_some_iff.1 hq).1 (by intro h; injection h with h; omega)).trans hq, hr⟩
theorem NN.grown {B : Nat} {w w' : World} {g : Nat} {v : Value} {n : Nat} (h : NN B w v n) (hg : w.grownBy w' (some g)) (hgB : g < B) : NN B w' v n := ⟨⟨own_grown h.1.1 hg hgB, h.1.2⟩, h.2⟩
def flatZ (zs : List (Bool × Value × Nat)) : List Value := zs.flatMap fun z => [.bool z.1, z.2.1]
theorem flatZ_snoc (zs : List (Bool × Value × Nat)) (z : Bool × Value × Nat) : flatZ (zs ++ [z]) = flatZ zs ++ [.bool z.1, z.2.1] := by simp [flatZ]
theorem flatZ_get : ∀ (zs : List (Bool × Value × Nat)) (i : Nat) (z : Bool × Value × Nat), zs[i]? = some z → (flatZ zs)[i * 2]? = some (.bool z.1) ∧ (flatZ zs)[i * 2 + 1]? = some z.2.1
  | [], i, z, h => by simp at h
  | y :: zs, 0, z, h => by
    obtain rfl : y = z := by simpa using h
    simp [flatZ]
  | y :: zs, i + 1, z, h => by
    have := flatZ_get zs i z (by simpa using h)
    have e1 : flatZ (y :: zs) = [.bool y.1, y.2.1] ++ flatZ zs := by simp [flatZ]
    rw [e1, List.getElem?_append_right (by simp; omega), List.getElem?_append_right (by simp; omega)]
    have e2 : (i + 1) * 2 - [Value.bool y.1, y.2.1].length = i * 2 := by simp; omega
    have e3 : (i + 1) * 2 + 1 - [Value.bool y.1, y.2.1].length = i * 2 + 1 := by simp; omega
    rw [e2, e3]
    exact this
theorem zs_row {w : World} {B : Nat} {v : Value} {zs : List (Bool × Value × Nat)} {e : TypeId} (h : w.ownsRow B e 2 v zs.length (flatZ zs)) (hz : ∀ z ∈ zs, NN B w z.2.1 z.2.2) : ∃ a cap, v = .slice a zs.length cap ∧ Zs w a zs.length zs := by
  obtain ⟨-, ⟨rfl, hn⟩ | ⟨g, cap, cur, rfl, hB, hg, hnc, hcm, hcs, htk⟩⟩ := h
  · refine ⟨none, 0, by rw [hn], rfl, fun z hzz => (hz z hzz).nm, fun h0 => by omega⟩
  · refine ⟨some ⟨g, 0, none⟩, cap, rfl, rfl, fun z hzz => (hz z hzz).nm, fun h0 => ⟨g, 0, rfl, (Array.getElem?_eq_some_iff.1 hg).1, fun i z hi => ?_⟩⟩
    obtain ⟨h1, h2⟩ := flatZ_get zs i z hi
    have hil : i < zs.length := (List.getElem?_eq_some_iff.1 hi).1
    rw [← htk, List.getElem?_take_of_lt (by omega)] at h1
    rw [← htk, List.getElem?_take_of_lt (by omega)] at h2
    exact ⟨by simpa [World.cell?, hg] using h1, by simpa [World.cell?, hg] using h2⟩
theorem Tryz.intInfo : (Tryz.prog.info? 47).map (fun i => (i.zero, i.size, i.bytes)) = some (some (.agg #[.bool false, .slice none 0 0]), 2, 32) := by kernel_rfl
/-- append of an integer to a row of one's own. -/
theorem app_int {ops : Array Oper} {rest : List Oper} {o : Oper} {a : Act} {Q : Exit → Act → World → Prop} (W : World) (hg : o.guard = none) (s x : Operand)
    (hop : o.op = Op.call { callee := Callee.builtin Builtin.append, args := #[s, x], argTypes := #[22, 22] }) (base : Nat) (v : Value) (n : Nat) (xs : List Value) (b : Bool) (ma : Option Addr) (ml mc : Nat) (hs : a.eval s = v)
    (hown : W.ownsRow base 47 2 v n xs) (gx : Nat) (hgx : W.heap.size = gx) (hx : a.eval x = .slice (some ⟨gx, 0, none⟩) 1 1) (hn : n ≤ 1000000) (hb : base ≤ W.heap.size)
    (hK : ∀ g cap w', w'.ownsRow base 47 2 (.slice (some ⟨g, 0, none⟩) (n + 1) cap) (n + 1) (xs ++ [.bool b, .slice ma ml mc]) → (W.alloc (.cells #[.bool b, .slice ma ml mc] 47)).grownBy w' v.ownBlock → Below base W w' →
      wpList Tryz.prog ops Q rest (a.put o.dst (.slice (some ⟨g, 0, none⟩) (n + 1) cap)) w') :
    wpList Tryz.prog ops Q (o :: rest) a (W.alloc (.cells #[.bool b, .slice ma ml mc] 47)) := by
  subst hgx
  obtain ⟨i0, hi, hz0, hz1, hz2⟩ := info_parts Tryz.intInfo
  refine wpList_append_own _ hg s x 22 hop base 47 i0 (.agg #[.bool false, .slice none 0 0]) 2 32 Tryz.underlying22 hi hz0 hz1 hz2 (by decide) (by decide) v n xs hs (hown.alloc _) ⟨W.heap.size, 0, none⟩ 1 1 [.bool b, .slice ma ml mc] hx rfl (fun j u h => cell_two W _ _ _ j u h) (by simp [Value.oneCell']) (by unfold maxLen; omega) (by omega) (by simp; omega) ?_
  intro v' w' h1 h2 _
  obtain ⟨g, cap, rfl⟩ := ownsRow_succ h1
  exact hK g cap w' h1 h2 (own_grow hown hb h2)
theorem nn_row {B : Nat} {w w' : World} {q v : Value} {n : Nat} (h : NN B w v n) (hg : w.grownBy w' q.ownBlock) (hne : v.ownBlock = none ∨ v.ownBlock ≠ q.ownBlock) : NN B w' v n := by
  obtain ⟨⟨⟨h0, h1⟩, h2⟩, h3⟩ := h
  refine ⟨⟨⟨h0, ?_⟩, h2⟩, h3⟩
  rcases h1 with h1 | ⟨g, cap, cur, rfl, hB, hq, hr⟩
  · exact .inl h1
  · refine .inr ⟨g, cap, cur, rfl, hB, (hg.block g (Array.getElem?_eq_some_iff.1 hq).1 ?_).trans hq, hr⟩
    rcases hne with h | h
    · simp [Value.ownBlock] at h
    · exact fun e => h e
theorem nn_ne {B C : Nat} {w : World} {v q : Value} {n k : Nat} {xs : List Value} (h : NN B w v n) (hr : w.ownsRow C 47 2 q k xs) : v.ownBlock = none ∨ v.ownBlock ≠ q.ownBlock := by
  obtain ⟨⟨⟨-, h1⟩, -⟩, -⟩ := h
  rcases h1 with ⟨rfl, -⟩ | ⟨g, cap, cur, rfl, hB, hq, -⟩
  · exact .inl rfl
  · right
    rcases hr.2 with ⟨rfl, -⟩ | ⟨g2, cap2, cur2, rfl, hB2, hq2, -⟩
    · simp [Value.ownBlock]
    · intro e
      obtain rfl : g = g2 := by simpa [Value.ownBlock] using e
      rw [hq] at hq2
      exact absurd hq2 (by simp)
end Go.Proofs.YtpnllalefpkcjaaGreatDoor.Store
