/-
Contracts of the reference's Same and of the statements' great: records behind one another, held against each other.
-/
import Derived.Test.YtaknmionaibodaaDoorStoreRead3
import Derived.Test.YtaknmionaibodaaDoorRecs
import Derived.Deep.QuietTactic
import Derived.BigQuiet
import Derived.RegionTactic
import Derived.Laws.StructEq
namespace Go.Proofs.YtaknmionaibodaaDoor.Store
open Go.RowKit

/-- The value v is a slice of records. -/
def Rs (w : World) (v : Value) (l : List (Nat × ByteArray)) : Prop :=
  ∃ a cap, v = .slice a l.length cap ∧ l.length ≤ cap ∧ cap ≤ maxLen ∧
    (0 < l.length → ∃ b off, a = some ⟨b, off, none⟩ ∧ b < w.heap.size ∧ ∀ (j : Nat) (r : Nat × ByteArray), l[j]? = some r → w.cell? ⟨b, off + j * 2, none⟩ = some (.int .u8 (r.1 : Int)) ∧ w.cell? ⟨b, off + j * 2 + 1, none⟩ = some (.string r.2))
theorem Rs.below {w w' : World} {v : Value} {l : List (Nat × ByteArray)} (h : Rs w v l) (hb : Below w.heap.size w w') : Rs w' v l := by
  obtain ⟨a, cap, e, h1, h2, h3⟩ := h
  refine ⟨a, cap, e, h1, h2, fun hp => ?_⟩
  obtain ⟨b, off, ha, hlt, hc⟩ := h3 hp
  exact ⟨b, off, ha, Nat.lt_of_lt_of_le hlt hb.size, fun j r hr => ⟨(hb.cell (p := ⟨b, off + j * 2, none⟩) hlt).trans (hc j r hr).1, (hb.cell (p := ⟨b, off + j * 2 + 1, none⟩) hlt).trans (hc j r hr).2⟩⟩
theorem flat_get : ∀ (l : List (Nat × ByteArray × Nat)) (j : Nat) (x : Nat × ByteArray × Nat), l[j]? = some x → (flatR l)[j * 2]? = some (.int .u8 (x.1 : Int)) ∧ (flatR l)[j * 2 + 1]? = some (.string x.2.1)
  | [], j, x, h => by simp at h
  | y :: l, 0, x, h => by
    obtain rfl : y = x := by simpa using h
    exact ⟨rfl, rfl⟩
  | y :: l, j + 1, x, h => by
    have ih := flat_get l j x (by simpa using h)
    have e : flatR (y :: l) = .int .u8 (y.1 : Int) :: .string y.2.1 :: flatR l := rfl
    rw [e, show (j + 1) * 2 = j * 2 + 1 + 1 by omega]
    exact ih
def recL (l : List (Nat × ByteArray × Nat)) : List (Nat × ByteArray) := l.map fun x => (x.1, x.2.1)
theorem Rs.own {w : World} {v : Value} {B : Nat} {l : List (Nat × ByteArray × Nat)} (h : w.ownsRow B 23 2 v l.length (flatR l)) : Rs w v (recL l) := by
  have hl : (recL l).length = l.length := by simp [recL]
  obtain ⟨-, ⟨rfl, hn⟩ | ⟨g, cap, cur, rfl, hB, hg, hnc, hcm, hcs, htk⟩⟩ := h
  · refine ⟨none, 0, by rw [hl, hn], by omega, Nat.zero_le _, fun h0 => absurd h0 (by omega)⟩
  · refine ⟨some ⟨g, 0, none⟩, cap, by rw [hl], by omega, hcm, fun h0 => ⟨g, 0, rfl, (Array.getElem?_eq_some_iff.1 hg).1, fun j r hr => ?_⟩⟩
    unfold recL at hr
    rw [List.getElem?_map] at hr
    cases hx : l[j]? with
    | none => rw [hx] at hr; cases hr
    | some x =>
      rw [hx] at hr
      obtain rfl : (x.1, x.2.1) = r := by simpa using hr
      obtain ⟨f1, f2⟩ := flat_get l j x hx
      obtain ⟨hjl, -⟩ := List.getElem?_eq_some_iff.1 hx
      rw [← htk] at f1 f2
      rw [List.getElem?_take_of_lt (by omega), Array.getElem?_toList] at f1 f2
      rw [Nat.zero_add]
      unfold World.cell?
      simp only [hg]
      exact ⟨f1, f2⟩
def rowOf : List Value → Nat × ByteArray
  | [.int _ n, .string d] => (n.toNat, d)
  | _ => (0, ByteArray.empty)
theorem Rs.recs {w : World} {a : Option Addr} {len cap : Nat} {rows : List (List Value)} (h : IsRecs w a len cap 2 rows)
    (hp : ∀ r ∈ rows, ∃ (x0 : Int) (x1 : ByteArray), r = [.int .u8 x0, .string x1] ∧ (Lit.int .u8 x0).wf = true ∧ x1.size ≤ maxLen) : Rs w (.slice a len cap) (rows.map rowOf) ∧ ∀ r ∈ rows.map rowOf, r.1 < 256 ∧ r.2.size ≤ maxLen := by
  obtain ⟨hl, hlc, hcm, hcell⟩ := h
  refine ⟨⟨a, cap, by rw [List.length_map, hl], by rw [List.length_map]; omega, hcm, fun h0 => ?_⟩, ?_⟩
  · obtain ⟨b, off, ha, hb, hc⟩ := hcell (by rw [List.length_map] at h0; omega)
    refine ⟨b, off, ha, hb, fun j r hr => ?_⟩
    rw [List.getElem?_map] at hr
    cases hx : rows[j]? with
    | none => rw [hx] at hr; cases hr
    | some x =>
      rw [hx] at hr
      obtain ⟨x0, x1, rfl, hw, -⟩ := hp x (List.mem_of_getElem? hx)
      obtain rfl := Option.some.inj hr
      have hb0 := bounds_u8 hw
      have e0 := hc j _ hx 0 _ rfl
      have e1 := hc j _ hx 1 _ rfl
      refine ⟨?_, e1⟩
      rw [show ((rowOf [.int .u8 x0, .string x1]).1 : Int) = x0 from Int.toNat_of_nonneg hb0.1]
      exact e0
  · intro r hr
    obtain ⟨x, hx, rfl⟩ := List.mem_map.1 hr
    obtain ⟨x0, x1, rfl, hw, hs⟩ := hp x hx
    have hb0 := bounds_u8 hw
    exact ⟨by show x0.toNat < 256; omega, hs⟩

set_option maxRecDepth 100000 in
set_option maxHeartbeats 1000000 in
/-- Same of what is the same. -/
theorem same_eq (b : Bool) (t : ByteArray) (v1 v2 : Value) (u : Int) (l : List (Nat × ByteArray)) (w : World) (h1 : Rs w v1 l) (h2 : Rs w v2 l) :
    Calls Tryd.prog 13 #[.agg #[.bool b, .string t, v1, .int .i64 u], .agg #[.bool b, .string t, v2, .int .i64 u]] w fun e w' => e = .returned (.bool true) ∧ Below w.heap.size w w' := by
  obtain ⟨a1, c1, rfl, p1, m1, g1⟩ := h1
  obtain ⟨a2, c2, rfl, p2, m2, g2⟩ := h2
  unfold maxLen at m1 m2
  obtain ⟨A, hA⟩ : ∃ A, w.heap.size = A := ⟨_, rfl⟩
  obtain ⟨W0, hW0⟩ : ∃ W0, (w.alloc (.cells #[.bool b, .string t, .slice a1 l.length c1, .int .i64 u] 36)).alloc (.cells #[.bool b, .string t, .slice a2 l.length c2, .int .i64 u] 36) = W0 := ⟨_, rfl⟩
  have hb0 : Below w.heap.size w W0 := by rw [← hW0]; exact ((Below.refl _ _).alloc (Nat.le_refl _) _).alloc (by simp) _
  have k1 : Blk W0 A 36 [.bool b, .string t, .slice a1 l.length c1, .int .i64 u] := by rw [← hW0, ← hA]; exact (Blk.new w _ [_, _, _, _]).alloc _
  have k2 : Blk W0 (A + 1) 36 [.bool b, .string t, .slice a2 l.length c2, .int .i64 u] := by
    have := Blk.new (w.alloc (.cells #[.bool b, .string t, .slice a1 l.length c1, .int .i64 u] 36)) 36 [.bool b, .string t, .slice a2 l.length c2, .int .i64 u]
    rw [← hW0, ← hA]
    simpa using this
  have G := Lib.hid (And.intro g1 g2)
  have HA := Lib.hid hA
  have HB := Lib.hid hb0
  have e0 := k1.cell 0
  have e1 := k1.cell 1
  have e2 := k1.cell 2
  have e3 := k1.cell 3
  have f0 := k2.cell 0
  have f1 := k2.cell 1
  have f2 := k2.cell 2
  have f3 := k2.cell 3
  have htt : (t.toList == t.toList) = true := by simp
  simp only [List.getElem?_cons_zero, List.getElem?_cons_succ] at e0 e1 e2 e3 f0 f1 f2 f3
  clear g1 g2 hb0
  go_enter Tryd.func13, Tryd.ntmps13
  go_wp2_with fail
  clear e0 e1 e2 e3 f0 f1 f2 f3 htt hA hW0
  go_loopw [5] (fun i wr => ∃ j : Nat, j ≤ l.length ∧ i = .int .i64 (j : Int) ∧ Hid (Below W0.heap.size W0 wr)) (fun i _ => l.length - (intOf i).toNat)
  case atStart => exact ⟨0, Nat.zero_le _, rfl, Lib.hid (Below.refl _ _)⟩
  case round =>
    obtain ⟨j, hj, rfl, HR⟩ := hrel
    have q1 := k1.below HR.out k1.lt
    have q2 := k2.below HR.out k2.lt
    have e2 := q1.cell 2
    have f2 := q2.cell 2
    have l1 := q1.lt
    have l2 := q2.lt
    simp only [List.getElem?_cons_zero, List.getElem?_cons_succ] at e2 f2
    by_cases hlt : j < l.length
    · have dd1 : decide (j < l.length) = true := by simpa using hlt
      obtain ⟨b1, o1, rfl, hb1, hc1⟩ := G.out.1 (by omega)
      obtain ⟨b2, o2, rfl, hb2, hc2⟩ := G.out.2 (by omega)
      obtain ⟨⟨k, d⟩, hr⟩ : ∃ r, l[j]? = some r := ⟨_, List.getElem?_eq_getElem hlt⟩
      have hbw := HB.out.trans (HR.out.mono HB.out.size)
      have x1 := (hbw.cell (p := ⟨b1, o1 + j * 2, none⟩) hb1).trans (hc1 j _ hr).1
      have x2 := (hbw.cell (p := ⟨b1, o1 + j * 2 + 1, none⟩) hb1).trans (hc1 j _ hr).2
      have y1 := (hbw.cell (p := ⟨b2, o2 + j * 2, none⟩) hb2).trans (hc2 j _ hr).1
      have y2 := (hbw.cell (p := ⟨b2, o2 + j * 2 + 1, none⟩) hb2).trans (hc2 j _ hr).2
      simp only [] at x1 x2 y1 y2
      have hdd : (d.toList == d.toList) = true := by simp
      have HBD := Lib.hid HR.out.drew
      clear hr hc1 hc2 hbw q1 q2 l1 l2
      go_wp2_with fail
      go_region
      go_wp2_with fail
      go_roundw
      first
        | exact ⟨⟨j + 1, by omega, by go_num, HBD⟩, by simp [intOf]; omega⟩
        | (case rel => exact ⟨j + 1, by omega, by go_num, HBD⟩
           case measure => simp [intOf]; omega)
    · have dd1 : decide (j < l.length) = false := by simpa using hlt
      go_wp2_with fail
      go_ret
      exact ⟨rfl, HB.out.trans (HR.out.mono HB.out.size)⟩

/-- What the statements look at. -/
def Few (s : ByteArray) (l : List (Nat × ByteArray)) : Prop := s.size ≤ 300 ∧ l.length ≤ 20 ∧ ∀ r ∈ l, r.2.size ≤ 300
set_option maxRecDepth 100000 in
set_option maxHeartbeats 1000000 in
theorem great_no (s : ByteArray) (v : Value) (l : List (Nat × ByteArray)) (w : World) (h : Rs w v l) (hf : Few s l) :
    Calls Tryd.prog 16 #[.string s, v] w fun e w' => e = .returned (.bool false) ∧ w' = w := by
  obtain ⟨a, c, rfl, p1, m1, g1⟩ := h
  obtain ⟨f1, f2, f3⟩ := hf
  unfold maxLen at m1
  have HF := Lib.hid f3
  have HG := Lib.hid g1
  clear f3 g1
  go_enter Tryd.func16, Tryd.ntmps16
  go_wp2_with fail
  go_loop [5] (fun i => ∃ j : Nat, j ≤ l.length ∧ i = .int .i64 (j : Int)) (fun i => l.length - (intOf i).toNat)
  case atStart => exact ⟨0, Nat.zero_le _, rfl⟩
  case round =>
    obtain ⟨j, hj, rfl⟩ := hrel
    by_cases hlt : j < l.length
    · have dd1 : decide (j < l.length) = true := by simpa using hlt
      obtain ⟨b, o, rfl, -, hc⟩ := HG.out (by omega)
      obtain ⟨⟨k, d⟩, hr⟩ : ∃ r, l[j]? = some r := ⟨_, List.getElem?_eq_getElem hlt⟩
      have x2 := (hc j _ hr).2
      have hd := HF.out _ (List.mem_of_getElem? hr)
      simp only [] at x2 hd
      clear hr hc
      go_wp2_with fail
      go_round
      case rel => exact ⟨j + 1, by omega, by go_num⟩
      case measure => simp [intOf]; omega
    · have dd1 : decide (j < l.length) = false := by simpa using hlt
      go_wp2_with fail
      go_ret
      exact ⟨rfl, rfl⟩
set_option maxRecDepth 100000 in
set_option maxHeartbeats 1000000 in
theorem great_yes (s : ByteArray) (v : Value) (l : List (Nat × ByteArray)) (w : World) (hs : s.size ≤ maxLen) (h : Rs w v l) (hv : ∀ r ∈ l, r.2.size ≤ maxLen) (hf : ¬ Few s l) :
    Calls Tryd.prog 16 #[.string s, v] w fun e w' => e = .returned (.bool true) ∧ w' = w := by
  obtain ⟨a, c, rfl, p1, m1, g1⟩ := h
  unfold maxLen at m1 hs
  have HF := Lib.hid hf
  have HG := Lib.hid g1
  have HV := Lib.hid hv
  clear hf g1 hv
  by_cases h1 : 300 < s.size
  · go_enter Tryd.func16, Tryd.ntmps16
    go_wp2_with fail
    go_ret
    exact ⟨rfl, rfl⟩
  by_cases h2 : 20 < l.length
  · go_enter Tryd.func16, Tryd.ntmps16
    go_wp2_with fail
    go_ret
    exact ⟨rfl, rfl⟩
  go_enter Tryd.func16, Tryd.ntmps16
  go_wp2_with fail
  go_loop [5] (fun i => ∃ j : Nat, j ≤ l.length ∧ i = .int .i64 (j : Int) ∧ Hid (∀ i r, i < j → l[i]? = some r → r.2.size ≤ 300)) (fun i => l.length - (intOf i).toNat)
  case atStart => exact ⟨0, Nat.zero_le _, rfl, Lib.hid (fun i r h => absurd h (Nat.not_lt_zero i))⟩
  case round =>
    obtain ⟨j, hj, rfl, HR⟩ := hrel
    by_cases hlt : j < l.length
    · have dd1 : decide (j < l.length) = true := by simpa using hlt
      obtain ⟨b, o, rfl, -, hc⟩ := HG.out (by omega)
      obtain ⟨⟨k, d⟩, hr⟩ : ∃ r, l[j]? = some r := ⟨_, List.getElem?_eq_getElem hlt⟩
      have x2 := (hc j _ hr).2
      have hd := HV.out _ (List.mem_of_getElem? hr)
      have HJ := Lib.hid hr
      simp only [] at x2 hd
      unfold maxLen at hd
      clear hr hc
      by_cases hb : 300 < d.size
      · go_wp2_with fail
        go_ret
        exact ⟨rfl, rfl⟩
      · go_wp2_with fail
        go_round
        case rel =>
          refine ⟨j + 1, by omega, by go_num, Lib.hid fun i r hi hr => ?_⟩
          by_cases hij : i = j
          · subst hij
            rw [HJ.out] at hr
            obtain rfl := Option.some.inj hr
            show d.size ≤ 300
            omega
          · exact HR.out i r (by omega) hr
        case measure => simp [intOf]; omega
    · exfalso
      refine HF.out ⟨by omega, by omega, fun r hr => ?_⟩
      obtain ⟨i, hi, rfl⟩ := List.mem_iff_getElem.1 hr
      exact HR.out i _ (by omega) (List.getElem?_eq_getElem hi)
end Go.Proofs.YtaknmionaibodaaDoor.Store
