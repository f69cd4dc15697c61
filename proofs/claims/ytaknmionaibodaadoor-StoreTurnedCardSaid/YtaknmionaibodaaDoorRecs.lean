/-
What a walk is told of a struct that came in by value, and of a slice of structs.
-/
import Derived.Test.YtaknmionaibodaaDoorFrame
import Derived.Deep.Fields
import Derived.Deep.Slices
import Derived.Lib.SmallJoins
namespace Go.Proofs.YtaknmionaibodaaDoor
open Go.ChangeShapes Go.WideShapes Go.ChangeAt Go.RowKit
section
variable {H : Type} {enc : TypeId × Value → H} {P : Program} {w : World} {base : Nat} {held : Bool}
theorem struct_field {t : TypeId} {fs : Array Field} {fuel : Nat} {cs : List Value} {x : DataW H × List MemPlace} {spare : Nat → Bool} (ht : P.underlying t = some (.struct fs)) (hone : Deep.oneCellFields P fs = true) (hC : P.cellsOf t = fs.size)
    (h : DataW.trod enc P w base spare held fuel t cs = some x) :
    cs.length = fs.size ∧ ∃ n, ∀ (j : Nat) (f : Field) (c : Value), fs[j]? = some f → cs[j]? = some c → ∃ y, DataW.trod enc P w base spare held n f.type [c] = some y := by
  obtain ⟨ys, n, _, _, hlen, hyl, hf⟩ := DataW.trod_struct ht h
  refine ⟨hlen.trans hC, n, fun j f c hj hc => ?_⟩
  obtain ⟨ho, hk⟩ := Deep.hone_of hone j f hj
  have hjl : j < fs.size := (Array.getElem?_eq_some_iff.1 hj).1
  have h1 := hf j f hj
  rw [ho, hk] at h1
  have hjc : j < cs.length := by rw [hlen, hC]; exact hjl
  have hone' : (cs.drop j).take 1 = [c] := by
    rw [List.drop_eq_getElem_cons hjc]
    rw [List.getElem?_eq_getElem hjc] at hc
    injection hc with hc
    rw [hc]
    rfl
  rw [hone', List.getElem?_eq_getElem (by omega)] at h1
  exact ⟨_, h1⟩
theorem is_agg {t : TypeId} {fs : Array Field} {r : Reach} {b0 : Nat} {v : Value} {d : DataW H} {p : List MemPlace} {spare : Nat → Bool} (ht : P.underlying t = some (.struct fs)) (Pr : List Value → Prop) (hP : ∀ fuel cs x, DataW.trod enc P w base spare held fuel t cs = some x → Pr cs)
    (hv : Value.okWide P w r b0 t v) (h : DataW.Trod enc P w base spare held t v d p) : ∃ cs : List Value, v = .agg cs.toArray ∧ Pr cs := by
  obtain ⟨cs, rfl, _⟩ := okWide_struct ht hv
  obtain ⟨fuel, hf⟩ := h
  exact ⟨cs.toList, by simp, hP fuel _ _ hf⟩
end

/-- A slice of structs of k one-cell fields each: the rows that it holds. -/
def IsRecs (w : World) (a : Option Addr) (len cap k : Nat) (rows : List (List Value)) : Prop :=
  rows.length = len ∧ len ≤ cap ∧ cap ≤ maxLen ∧ (0 < len → ∃ b off, a = some ⟨b, off, none⟩ ∧ b < w.heap.size ∧ ∀ i r, rows[i]? = some r → ∀ j u, r[j]? = some u → w.cell? ⟨b, off + (i * k + j), none⟩ = some u)
theorem list_of_idx {α : Type} {Q : Nat → α → Prop} : ∀ n : Nat, (∀ i, i < n → ∃ x, Q i x) → ∃ l : List α, l.length = n ∧ ∀ i x, l[i]? = some x → Q i x
  | 0, _ => ⟨[], rfl, fun i x h => by simp at h⟩
  | n + 1, h => by
    obtain ⟨l, hl, hq⟩ := list_of_idx n (fun i hi => h i (by omega))
    obtain ⟨x, hx⟩ := h n (by omega)
    refine ⟨l ++ [x], by simp [hl], fun i y hy => ?_⟩
    by_cases hi : i < n
    · rw [List.getElem?_append_left (by omega)] at hy
      exact hq i y hy
    · by_cases hin : i = n
      · subst hin
        rw [List.getElem?_append_right (by omega), hl] at hy
        simp at hy
        rw [← hy]
        exact hx
      · rw [List.getElem?_eq_none (by simp; omega)] at hy
        cases hy
section
variable {H : Type} {enc : TypeId × Value → H} {P : Program} {w : World} {base : Nat} {held : Bool}
theorem is_recs {t e : TypeId} {k : Nat} {a : Option Addr} {len cap : Nat} {d : DataW H} {p : List MemPlace} (hk : 0 < k) (ht : P.underlying t = some (.slice e)) (hC : P.cellsOf e = k)
    (Pr : List Value → Prop) (hP : ∀ fuel cs x, DataW.trod enc P w base (fun _ => true) held fuel e cs = some x → Pr cs)
    (h : DataW.Trod enc P w base (fun _ => true) held t (.slice a len cap) d p) : ∃ rows, IsRecs w a len cap k rows ∧ ∀ r ∈ rows, Pr r := by
  obtain ⟨fuel, hf⟩ := h
  rcases Deep.open_slice ht hf with ⟨hcs, _⟩ | ⟨x, l, c, m, n, D, Pl, hcs, _, hl, hm, hmm, _, hi⟩
  · simp [Value.cells] at hcs
    obtain ⟨rfl, rfl, rfl⟩ := hcs
    exact ⟨[], ⟨rfl, Nat.le_refl _, Nat.zero_le _, fun h => absurd h (by omega)⟩, fun r hr => by cases hr⟩
  · simp [Value.cells] at hcs
    obtain ⟨rfl, rfl, rfl⟩ := hcs
    simp only [if_true] at hmm
    subst hmm
    rw [hC] at hi
    obtain ⟨rows, hrl, hq⟩ := list_of_idx (Q := fun i r => Pr r ∧ r.length = k ∧ ∀ j, j < k → w.cell? ((x.add (i * k)).add j) = r[j]?) len (fun i hil => by
      obtain ⟨cs', hc', ht'⟩ := hi i (by omega)
      obtain ⟨_, hcl, hat⟩ := World.cells?_some hc'
      exact ⟨cs', hP _ _ _ ht', hcl, hat⟩)
    refine ⟨rows, ⟨hrl, hl, hm, fun hpos => ?_⟩, fun r hr => ?_⟩
    · obtain ⟨r0, hr0⟩ : ∃ r0, rows[0]? = some r0 := ⟨rows[0]'(by omega), List.getElem?_eq_getElem _⟩
      obtain ⟨_, hlr, hc0⟩ := hq 0 r0 hr0
      have h0 := hc0 0 hk
      rw [List.getElem?_eq_getElem (by omega)] at h0
      simp only [Nat.zero_mul] at h0
      have hxx : (x.add 0).add 0 = x := by simp [Addr.add]
      rw [hxx] at h0
      have hs : x.spot = none := World.cell?_spot h0
      have hlt : x.block < w.heap.size := World.block_lt_of_cell? w _ h0
      refine ⟨x.block, x.off, by rw [← hs], hlt, fun i r hir j u hu => ?_⟩
      obtain ⟨_, hlr, hcj⟩ := hq i r hir
      have hj : j < k := by
        rcases Nat.lt_or_ge j r.length with h' | h'
        · omega
        · rw [List.getElem?_eq_none h'] at hu; cases hu
      have := hcj j hj
      rw [hu, add_block x _ hs, add_block _ j rfl] at this
      rw [← this]
      show w.cell? ⟨x.block, x.off + (i * k + j), none⟩ = w.cell? ⟨x.block, x.off + i * k + j, none⟩
      rw [Nat.add_assoc]
    · obtain ⟨i, hil, rfl⟩ := List.mem_iff_getElem.1 hr
      exact (hq i _ (List.getElem?_eq_getElem hil)).1
theorem recs_field {t e : TypeId} {k : Nat} {c : Value} {fuel : Nat} {x : DataW H × List MemPlace} (hk : 0 < k) (ht : P.underlying t = some (.slice e)) (hC : P.cellsOf e = k)
    (Pr : List Value → Prop) (hP : ∀ fuel cs x, DataW.trod enc P w base (fun _ => true) held fuel e cs = some x → Pr cs)
    (h : DataW.trod enc P w base (fun _ => true) held fuel t [c] = some x) : ∃ a len cap rows, c = .slice a len cap ∧ IsRecs w a len cap k rows ∧ ∀ r ∈ rows, Pr r := by
  rcases Deep.open_slice ht h with ⟨hcs, _⟩ | ⟨y, l, c', m, n, D, Pl, hcs, _⟩
  · obtain rfl : c = .slice none 0 0 := by simpa using hcs
    exact ⟨none, 0, 0, [], rfl, ⟨rfl, Nat.le_refl _, Nat.zero_le _, fun h => absurd h (by omega)⟩, fun r hr => by cases hr⟩
  · obtain rfl : c = .slice (some y) l c' := by simpa using hcs
    obtain ⟨rows, h1, h2⟩ := is_recs (d := x.1) (p := x.2) hk ht hC Pr hP ⟨fuel, h⟩
    exact ⟨_, _, _, rows, rfl, h1, h2⟩
end
end Go.Proofs.YtaknmionaibodaaDoor
