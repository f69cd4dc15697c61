/-
StoreReads: store.Read tells what the reference's Read tells of any bytes; more than 20000 are let go. No condition.
-/
import Derived.Test.YtaknmionaibodaaDoorStoreRRead
import Derived.Test.YtaknmionaibodaaDoorStoreSame
import Derived.Test.YtaknmionaibodaaDoorStoreEx
namespace Go.Proofs.YtaknmionaibodaaDoor.Store
open Go.RowKit Nat_

/-- What Read tells of bytes, field by field. -/
def readIs (s : ByteArray) : Bool := decide ((headR s).2 ≠ 0)
def readT (s : ByteArray) : ByteArray := if (headR s).2 = 0 then ⟨#[]⟩ else (headR s).1
def readU (s : ByteArray) : Nat := if (headR s).2 = 0 then 0 else endOf (headR s).2 (recsAt s (headR s).2)
def readL (s : ByteArray) : List (Nat × ByteArray) := if (headR s).2 = 0 then [] else recL (recsAt s (headR s).2)
theorem ReadV.form {B : Nat} {w : World} {s : ByteArray} {e : Ending} (h : ReadV B w s e) :
    ∃ v, e = .returned (.agg #[.bool (readIs s), .string (readT s), v, .int .i64 (readU s : Int)]) ∧ Rs w v (readL s) := by
  rcases h with ⟨h0, rfl⟩ | ⟨h0, v, rfl, ho⟩
  · refine ⟨.slice none 0 0, ?_, ?_⟩
    · simp [readIs, readT, readU, h0]
    · unfold readL
      rw [if_pos h0]
      exact ⟨none, 0, rfl, by simp, Nat.zero_le _, fun h => absurd h (by decide)⟩
  · refine ⟨v, ?_, ?_⟩
    · simp [readIs, readT, readU, h0]
    · unfold readL
      rw [if_neg h0]
      exact Rs.own ho
theorem sread_form (s : ByteArray) (w : World) (hs : s.size ≤ 1000000) (hsh : Shifts w) :
    Calls Tryd.prog 14 #[.string s] w fun e w' => ∃ v, e = .returned (.agg #[.bool (readIs s), .string (readT s), v, .int .i64 (readU s : Int)]) ∧ Rs w' v (readL s) ∧ Below w.heap.size w w' :=
  (sread_any s w hs hsh).mono fun _ _ ⟨h, hb⟩ => by obtain ⟨v, e, hr⟩ := h.form; exact ⟨v, e, hr, hb⟩
theorem rread_form (s : ByteArray) (w : World) (hs : s.size ≤ 1000000) :
    Calls Tryd.prog 15 #[.string s] w fun e w' => ∃ v, e = .returned (.agg #[.bool (readIs s), .string (readT s), v, .int .i64 (readU s : Int)]) ∧ Rs w' v (readL s) ∧ Below w.heap.size w w' :=
  (rread_any s w hs).mono fun _ _ ⟨h, hb⟩ => by obtain ⟨v, e, hr⟩ := h.form; exact ⟨v, e, hr, hb⟩
set_option maxRecDepth 100000 in
set_option maxHeartbeats 1000000 in
theorem storeReads_walk (s : ByteArray) (w : World) (hs : s.size ≤ maxLen) (hsh : Shifts w) :
    Calls Tryd.prog 4 #[.string s] w fun e w' => e = .returned (.bool true) ∧ Below w.heap.size w w' := by
  unfold maxLen at hs
  by_cases hl : 20000 < s.size
  · go_enter Tryd.func4, Tryd.ntmps4
    go_wp2_with fail
    refine (lawHead_any w hsh).mono ?_
    rintro e w1 ⟨rfl, hb1⟩
    go_wp2_with fail
    go_ret
    exact ⟨rfl, hb1⟩
  have c1 := sread_form s w (by omega) hsh
  have c2 := fun w' => rread_form s w' (by omega)
  generalize readIs s = b at *
  generalize readT s = t at *
  generalize readU s = u at *
  generalize readL s = l at *
  have C1 := Lib.hid c1
  have C2 := Lib.hid c2
  clear c1 c2
  go_enter Tryd.func4, Tryd.ntmps4
  go_wp2_with fail
  refine C1.out.mono ?_
  rintro e w1 ⟨v1, rfl, hr1, hb1⟩
  go_wp2_with fail
  refine (C2.out w1).mono ?_
  rintro e w2 ⟨v2, rfl, hr2, hb2⟩
  have hB2 := hb1.trans (hb2.mono hb1.size)
  have hS2 := hsh.below hB2
  have hr12 := hr1.below hb2
  have c3 := same_eq b t v1 v2 (u : Int) l w2 hr12 hr2
  have C3 := Lib.hid c3
  clear c3
  go_wp2_with fail
  refine C3.out.mono ?_
  rintro e w3 ⟨rfl, hb3⟩
  go_wp2_with fail
  refine (lawHead_any w3 (hS2.below hb3)).mono ?_
  rintro e w4 ⟨rfl, hb4⟩
  go_wp2_with fail
  go_ret
  exact ⟨rfl, hB2.trans ((hb3.trans (hb4.mono hb3.size)).mono hB2.size)⟩
end Go.Proofs.YtaknmionaibodaaDoor.Store
