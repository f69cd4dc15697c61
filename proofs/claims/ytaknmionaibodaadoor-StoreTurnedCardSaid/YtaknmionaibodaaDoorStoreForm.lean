/-
What store.Read tells, field by field; slices of integers.
-/
import Derived.Test.YtaknmionaibodaaDoorStoreSame
namespace Go.Proofs.YtaknmionaibodaaDoor.Store
open Go.RowKit

/-- What Read tells of bytes, field by field. -/
def readIs (s : ByteArray) : Bool := decide ((headR s).2 ≠ 0)
def readT (s : ByteArray) : ByteArray := if (headR s).2 = 0 then ⟨#[]⟩ else (headR s).1
def readU (s : ByteArray) : Nat := if (headR s).2 = 0 then 0 else endOf (headR s).2 (recsAt s (headR s).2)
def readL (s : ByteArray) : List (Nat × ByteArray) := if (headR s).2 = 0 then [] else recL (recsAt s (headR s).2)
theorem ReadV.form {B : Nat} {w : World} {s : ByteArray} {e : Ending} (h : ReadV B w s e) :
    ∃ v, e = .returned (.agg #[.bool (readIs s), .string (readT s), v, .int .i64 (readU s : Int)]) ∧ Rs w v (readL s) := by
  rcases h with ⟨h0, rfl⟩ | ⟨h0, v, rfl, ho⟩
  · refine ⟨.slice none 0 0, ?_, ?_⟩
    · simp [readIs, readT, readU, h0]
    · unfold readL
      rw [if_pos h0]
      exact ⟨none, 0, rfl, by simp, Nat.zero_le _, fun h => absurd h (by decide)⟩
  · refine ⟨v, ?_, ?_⟩
    · simp [readIs, readT, readU, h0]
    · unfold readL
      rw [if_neg h0]
      exact Rs.own ho
theorem sread_form (s : ByteArray) (w : World) (hs : s.size ≤ 1000000) (hsh : Shifts w) :
    Calls Tryd.prog 14 #[.string s] w fun e w' => ∃ v, e = .returned (.agg #[.bool (readIs s), .string (readT s), v, .int .i64 (readU s : Int)]) ∧ Rs w' v (readL s) ∧ Below w.heap.size w w' :=
  (sread_any s w hs hsh).mono fun _ _ ⟨h, hb⟩ => by obtain ⟨v, e, hr⟩ := h.form; exact ⟨v, e, hr, hb⟩

/-- The value v is a slice of integers. -/
def Ks (w : World) (v : Value) (l : List Nat) : Prop :=
  ∃ a cap, v = .slice a l.length cap ∧ l.length ≤ cap ∧ cap ≤ maxLen ∧
    (0 < l.length → ∃ b off, a = some ⟨b, off, none⟩ ∧ b < w.heap.size ∧ ∀ (j n : Nat), l[j]? = some n → w.cell? ⟨b, off + j, none⟩ = some (.int .i64 (n : Int)))
theorem Ks.below {w w' : World} {v : Value} {l : List Nat} (h : Ks w v l) (hb : Below w.heap.size w w') : Ks w' v l := by
  obtain ⟨a, cap, e, h1, h2, h3⟩ := h
  refine ⟨a, cap, e, h1, h2, fun hp => ?_⟩
  obtain ⟨b, off, ha, hlt, hc⟩ := h3 hp
  exact ⟨b, off, ha, Nat.lt_of_lt_of_le hlt hb.size, fun j n hr => (hb.cell (p := ⟨b, off + j, none⟩) hlt).trans (hc j n hr)⟩
def intV (n : Nat) : Value := .int .i64 (n : Int)
theorem Ks.own {w : World} {v : Value} {B : Nat} {l : List Nat} (h : w.ownsRow B 3 1 v l.length (l.map intV)) : Ks w v l := by
  obtain ⟨-, ⟨rfl, hn⟩ | ⟨g, cap, cur, rfl, hB, hg, hnc, hcm, hcs, htk⟩⟩ := h
  · exact ⟨none, 0, by rw [hn], by omega, Nat.zero_le _, fun h0 => absurd h0 (by omega)⟩
  · refine ⟨some ⟨g, 0, none⟩, cap, rfl, hnc, hcm, fun h0 => ⟨g, 0, rfl, (Array.getElem?_eq_some_iff.1 hg).1, fun j n hr => ?_⟩⟩
    have hx : (cur.toList.take l.length)[j]? = some (intV n) := by rw [Nat.mul_one] at htk; rw [htk, List.getElem?_map, hr]; rfl
    obtain ⟨hjl, -⟩ := List.getElem?_eq_some_iff.1 hr
    rw [List.getElem?_take_of_lt hjl, Array.getElem?_toList] at hx
    rw [Nat.zero_add]
    unfold World.cell?
    simp only [hg]
    exact hx
end Go.Proofs.YtaknmionaibodaaDoor.Store
