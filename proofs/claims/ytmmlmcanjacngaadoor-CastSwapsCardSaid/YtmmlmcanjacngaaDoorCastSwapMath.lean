/-
The arithmetic of CastSwaps: bytes changed for each other leave the sum of both numbers as it was. And the rows that two conversions make.
-/
import Derived.Test.YtmmlmcanjacngaaDoorCastBack
namespace Go.Proofs.YtmmlmcanjacngaaDoor
open Go.RowKit

theorem be_set (l : List UInt8) (j : Nat) (x : UInt8) (h : j < l.length) : be (l.set j x) + l[j].toNat * 256 ^ (l.length - 1 - j) = be l + x.toNat * 256 ^ (l.length - 1 - j) := by
  have e : l = l.take j ++ ([l[j]] ++ l.drop (j + 1)) := by
    rw [List.singleton_append, ← List.drop_eq_getElem_cons h, List.take_append_drop]
  have e2 : l.set j x = l.take j ++ ([x] ++ l.drop (j + 1)) := by
    rw [List.set_eq_take_append_cons_drop, if_pos h]
    simp
  have hd : (l.drop (j + 1)).length = l.length - 1 - j := by simp; omega
  have hb : ∀ y : UInt8, be (l.take j ++ ([y] ++ l.drop (j + 1))) = be (l.take j) * (256 ^ (l.length - 1 - j) * 256) + (y.toNat * 256 ^ (l.length - 1 - j) + be (l.drop (j + 1))) := by
    intro y
    rw [be_append, be_append, List.length_append, hd, List.length_singleton, Nat.add_comm 1, Nat.pow_succ]
    simp [be]
  have r1 := hb x
  have r2 := hb l[j]
  rw [← e2] at r1
  rw [← e] at r2
  rw [r1, r2]
  omega
theorem be_swap (la lb : List UInt8) (j n : Nat) (ha : la.length = n) (hb : lb.length = n) (h : j < n) (x y : UInt8) (hx : la[j]? = some x) (hy : lb[j]? = some y) :
    be (la.set j y) + be (lb.set j x) = be la + be lb := by
  have h1 := be_set la j y (by omega)
  have h2 := be_set lb j x (by omega)
  rw [List.getElem?_eq_getElem (by omega)] at hx hy
  injection hx with hx
  injection hy with hy
  rw [hx, ha] at h1
  rw [hy, hb] at h2
  omega
theorem rest_sum (a b c d : List UInt8) (n : Nat) (ha : a.length = n) (hb : b.length = n) (hc : c.length = n) (hd : d.length = n) (h : be a + be b = be c + be d) : (rest a + rest b) % P61 = (rest c + rest d) % P61 := by
  unfold rest more
  rw [ha, hb, hc, hd, Nat.one_mul]
  generalize 256 ^ n = q
  rw [← Nat.add_mod, ← Nat.add_mod]
  congr 1
  omega

theorem bw_blk (w : World) (e : TypeId) (s : ByteArray) : ∃ z, Blk (Lib.bytesWorld w e s) w.heap.size e (bytesV s.data.toList ++ z) := by
  refine ⟨List.replicate (grownCap w s.size 0 e - s.size) (.int .u8 0), (Lib.bytesCells w e s).size, (Lib.bytesCells w e s).size + 1, ?_, .inr ?_⟩
  · rw [Lib.bytesWorld_at_new]
    congr 2
    apply Array.ext'
    simp [Lib.bytesCells, bytesV]
  · simp [Lib.bytesCells, bytesV]
theorem bw_below (w : World) (e : TypeId) (s : ByteArray) : Below w.heap.size w (Lib.bytesWorld w e s) :=
  ⟨by simp [Lib.bytesWorld, World.freeze]; rfl, by simp [Lib.bytesWorld, World.freeze], by simp [Lib.bytesWorld, World.freeze]; rfl, by rw [Lib.bytesWorld_size]; omega, fun k hk => Lib.bytesWorld_at_old w e s k hk⟩
theorem bw_two (w : World) (e : TypeId) (u v : ByteArray) : ∃ z1 z2, Blk (Lib.bytesWorld (Lib.bytesWorld w.drew e u) e v) w.heap.size e (bytesV u.data.toList ++ z1) ∧
    Blk (Lib.bytesWorld (Lib.bytesWorld w.drew e u) e v) (Lib.bytesWorld w.drew e u).heap.size e (bytesV v.data.toList ++ z2) ∧ (Lib.bytesWorld w.drew e u).heap.size = w.heap.size + 1 ∧
    Below w.heap.size w (Lib.bytesWorld (Lib.bytesWorld w.drew e u) e v) := by
  obtain ⟨z1, h1⟩ := bw_blk w.drew e u
  obtain ⟨z2, h2⟩ := bw_blk (Lib.bytesWorld w.drew e u) e v
  have hs : (Lib.bytesWorld w.drew e u).heap.size = w.heap.size + 1 := Lib.bytesWorld_size w.drew e u
  have b1 : Below w.heap.size w (Lib.bytesWorld w.drew e u) := (Below.refl _ _).drew.trans (bw_below w.drew e u)
  exact ⟨z1, z2, h1.below (bw_below _ e v) h1.lt, h2, hs, b1.trans ((bw_below _ e v).mono (by omega))⟩
end Go.Proofs.YtmmlmcanjacngaaDoor
