/-
What the reference's Read tells of a head and of a record, by putting again; and that it is what the program tells.
-/
import Derived.Test.YtaknmionaibodaaDoorStoreRead3
import Derived.Test.YtaknmionaibodaaDoorStorePut
import Derived.Test.YtaknmionaibodaaDoorNotchRead3
namespace Go.Proofs.YtaknmionaibodaaDoor.Store
open Go.RowKit Notch

theorem textB_list (s : ByteArray) : (Notch.textB s).data.toList = encT s.data.toList := by simp [Notch.textB]
theorem encB_list (n : Nat) : (encB [n]).data.toList = encL n := by simp [encB, encAll]
theorem numR_ok (s : ByteArray) (n : Nat) (t : ByteArray) (h : numR s false = (n, t, false)) : n < 18446744073709551616 ∧ s.data.toList = encL n ++ t.data.toList := by
  unfold numR at h
  rw [if_neg (by decide)] at h
  cases hr : readN s.data.toList with
  | none => rw [hr] at h; simp at h
  | some x =>
    obtain ⟨m, r⟩ := x
    rw [hr] at h
    simp only [Prod.mk.injEq] at h
    obtain ⟨rfl, rfl, -⟩ := h
    exact readN_some _ _ _ hr
theorem textR_ok (s : ByteArray) (n : Int) (x t : ByteArray) (h : textR s false n = (x, t, false)) : s.data.toList = encT x.data.toList ++ t.data.toList := by
  unfold textR at h
  obtain ⟨⟨m, r, b⟩, hq⟩ : ∃ q, numR s false = q := ⟨_, rfl⟩
  rw [hq] at h
  simp only at h
  cases b
  · obtain ⟨-, h2⟩ := numR_ok s m r hq
    rw [if_neg (by decide)] at h
    split at h
    · simp at h
    · rename_i hc
      simp only [Prod.mk.injEq] at h
      obtain ⟨rfl, rfl, -⟩ := h
      have hl : (r.data.toList.take m).length = m := by
        rw [List.length_take, size_list]; omega
      rw [h2, encT, ex_take, ex_drop, hl, List.append_assoc, List.take_append_drop]
  · rw [if_pos rfl] at h
    simp at h
theorem textR_bad (s : ByteArray) (n : Int) : (textR s true n).2.2 = true := by
  unfold textR
  rw [if_pos (by rfl)]
theorem bytes_eq {a b : ByteArray} (h : a.data.toList = b.data.toList) : a = b := ByteArray.ext (Array.ext' h)
/-- Where what lies ahead of rest ends with its seal. -/
theorem endN_seal (s rest : ByteArray) (body : List UInt8) (h : s.data.toList = body ++ rest.data.toList) :
    endN s rest false = if s.size < body.length + 8 ∨ s.data.toList.take (body.length + 8) ≠ sealL body then 0 else body.length + 8 := by
  have hl := congrArg List.length h
  rw [List.length_append, size_list, size_list] at hl
  have hn : s.size - rest.size + 8 = body.length + 8 := by omega
  unfold endN
  rw [hn]
  by_cases h1 : s.size < body.length + 8
  · rw [if_pos (Or.inr h1), if_pos (Or.inl h1)]
  · rw [if_neg (by simp; omega)]
    have hlen : (s.data.toList.take (body.length + 8)).length = body.length + 8 := by rw [List.length_take, size_list]; omega
    have hbody : (s.data.toList.take (body.length + 8)).take ((s.data.toList.take (body.length + 8)).length - 8) = body := by
      rw [hlen, List.take_take, h]
      have : min (body.length + 8 - 8) (body.length + 8) = body.length := by omega
      rw [this, List.take_left']
      rfl
    rw [sealed_iff _ (by omega), hbody]
    by_cases h2 : sealL body = s.data.toList.take (body.length + 8)
    · rw [if_pos (decide_eq_true h2), if_neg (fun h => h.elim h1 (fun h => h h2.symm))]
    · rw [if_neg (by simpa using h2), if_pos (Or.inr fun h => h2 h.symm)]
/-- What the reference tells of a head. -/
def rheadR (s : ByteArray) : ByteArray × Nat :=
  if s.size < 4 then (ByteArray.empty, 0)
  else if (textR (s.extract 4 s.size) false 100000).2.2 = true ∨ s.size < (headS (textR (s.extract 4 s.size) false 100000).1).size ∨ s.extract 0 (headS (textR (s.extract 4 s.size) false 100000).1).size ≠ headS (textR (s.extract 4 s.size) false 100000).1 then (ByteArray.empty, 0)
  else ((textR (s.extract 4 s.size) false 100000).1, (headS (textR (s.extract 4 s.size) false 100000).1).size)
/-- What the reference tells of a record. -/
def rrecR (s : ByteArray) : Nat × ByteArray × Nat :=
  if (textR (numR s false).2.1 (numR s false).2.2 65536).2.2 = true ∨ 3 < (numR s false).1 ∨ (numR s false).1 < 1 ∨ s.size < (putS (numR s false).1 (textR (numR s false).2.1 (numR s false).2.2 65536).1).size ∨
    s.extract 0 (putS (numR s false).1 (textR (numR s false).2.1 (numR s false).2.2 65536).1).size ≠ putS (numR s false).1 (textR (numR s false).2.1 (numR s false).2.2 65536).1 then (0, ByteArray.empty, 0)
  else ((numR s false).1, (textR (numR s false).2.1 (numR s false).2.2 65536).1, (putS (numR s false).1 (textR (numR s false).2.1 (numR s false).2.2 65536).1).size)
theorem sealB_list (s : ByteArray) : (sealB s).data.toList = sealL s.data.toList := by simp [sealB]
theorem sealL_length (l : List UInt8) : (sealL l).length = l.length + 8 := by simp [sealL, be8_length]
theorem put_list (k : Nat) (d : ByteArray) : (putS k d).data.toList = sealL (encL k ++ encT d.data.toList) := by
  unfold putS
  rw [sealB_list, ByteArray.toList_data_append, encB_list, textB_list]
theorem head_list (s : ByteArray) : (headS s).data.toList = sealL ([83, 84, 69, 80] ++ encT s.data.toList) := by
  unfold headS
  rw [sealB_list, ByteArray.toList_data_append, textB_list]
theorem put_size (k : Nat) (d : ByteArray) : (putS k d).size = (encL k ++ encT d.data.toList).length + 8 := by rw [← size_list, put_list, sealL_length]
theorem head_size (s : ByteArray) : (headS s).size = ([83, 84, 69, 80] ++ encT s.data.toList).length + 8 := by rw [← size_list, head_list, sealL_length]
theorem same_iff (s b : ByteArray) (body : List UInt8) (h : b.data.toList = sealL body) : (s.size < body.length + 8 ∨ s.data.toList.take (body.length + 8) ≠ sealL body) ↔ (s.size < b.size ∨ s.extract 0 b.size ≠ b) := by
  have hs : b.size = body.length + 8 := by rw [← size_list, h, sealL_length]
  rw [hs]
  refine or_congr Iff.rfl (not_congr ?_)
  constructor
  · intro e
    apply bytes_eq
    rw [ex_take, e, h]
  · intro e
    rw [← ex_take, e, h]
theorem rec_same (s : ByteArray) : (recR s).2.2 = (rrecR s).2.2 ∧ ((recR s).2.2 ≠ 0 → recR s = rrecR s) := by
  unfold recR rrecR
  obtain ⟨k, s1, b1, hk⟩ : ∃ k s1 b1, numR s false = (k, s1, b1) := ⟨_, _, _, rfl⟩
  rw [hk]
  simp only []
  obtain ⟨d, s2, b2, hd⟩ : ∃ d s2 b2, textR s1 b1 65536 = (d, s2, b2) := ⟨_, _, _, rfl⟩
  rw [hd]
  simp only []
  by_cases hkk : k < 1 ∨ 3 < k
  · rw [if_pos hkk, if_pos (hkk.elim (fun h => .inr (.inr (.inl h))) (fun h => .inr (.inl h)))]
    exact ⟨rfl, fun h => absurd rfl h⟩
  rw [if_neg hkk]
  cases b2 with
  | true =>
    rw [if_pos (Or.inl rfl)]
    have : endN s s2 true = 0 := if_pos (Or.inl rfl)
    rw [this]
    exact ⟨rfl, fun h => absurd rfl h⟩
  | false =>
    have hb1 : b1 = false := by
      cases b1 with
      | false => rfl
      | true => have := textR_bad s1 65536; rw [hd] at this; simp at this
    subst hb1
    obtain ⟨-, h1⟩ := numR_ok s k s1 hk
    have h2 := textR_ok s1 65536 d s2 hd
    rw [h2, ← List.append_assoc] at h1
    rw [endN_seal s s2 _ h1]
    have hi := same_iff s (putS k d) _ (put_list k d)
    rw [put_size]
    by_cases hc : s.size < (encL k ++ encT d.data.toList).length + 8 ∨ s.data.toList.take ((encL k ++ encT d.data.toList).length + 8) ≠ sealL (encL k ++ encT d.data.toList)
    · rw [if_pos hc]
      have hc2 := hi.1 hc
      rw [put_size] at hc2
      rw [if_pos (.inr (.inr (.inr hc2)))]
      exact ⟨rfl, fun h => absurd rfl h⟩
    · rw [if_neg hc]
      have hc2 := fun h => hc (hi.2 h)
      rw [put_size] at hc2
      rw [if_neg (by
        rintro (h | h | h | h)
        · simp at h
        · exact hkk (.inr h)
        · exact hkk (.inl h)
        · exact hc2 h)]
      exact ⟨rfl, fun _ => rfl⟩
theorem head_same (s : ByteArray) : (headR s).2 = (rheadR s).2 ∧ ((headR s).2 ≠ 0 → headR s = rheadR s) := by
  unfold headR rheadR
  by_cases h4 : s.size < 4
  · have ht : takeR s false 4 = (ByteArray.empty, ByteArray.empty, true) := takeR_no s 4 (by omega)
    rw [ht, if_pos h4]
    have : ¬ ByteArray.empty = STEP := by decide
    rw [if_neg this]
    exact ⟨rfl, fun h => absurd rfl h⟩
  have ht : takeR s false 4 = (s.extract 0 4, s.extract 4 s.size, false) := takeR_yes s 4 (by omega)
  rw [ht, if_neg h4]
  simp only []
  obtain ⟨d, s2, b2, hd⟩ : ∃ d s2 b2, textR (s.extract 4 s.size) false 100000 = (d, s2, b2) := ⟨_, _, _, rfl⟩
  rw [hd]
  simp only []
  by_cases hs : s.extract 0 4 = STEP
  · rw [if_pos hs]
    cases b2 with
    | true =>
      rw [if_pos (Or.inl rfl)]
      have : endN s s2 true = 0 := if_pos (Or.inl rfl)
      rw [this]
      exact ⟨rfl, fun h => absurd rfl h⟩
    | false =>
      have h2 := textR_ok _ 100000 d s2 hd
      have h1 : s.data.toList = ([83, 84, 69, 80] ++ encT d.data.toList) ++ s2.data.toList := by
        rw [List.append_assoc, ← h2, ex_drop]
        have h3 := congrArg (fun x => x.data.toList) hs
        simp only [ex_take] at h3
        have h4 : STEP.data.toList = [83, 84, 69, 80] := rfl
        rw [h4] at h3
        rw [← h3, List.take_append_drop]
      rw [endN_seal s s2 _ h1]
      have hi := same_iff s (headS d) _ (head_list d)
      rw [head_size]
      by_cases hc : s.size < ([83, 84, 69, 80] ++ encT d.data.toList).length + 8 ∨ s.data.toList.take (([83, 84, 69, 80] ++ encT d.data.toList).length + 8) ≠ sealL ([83, 84, 69, 80] ++ encT d.data.toList)
      · rw [if_pos hc]
        have hc2 := hi.1 hc
        rw [head_size] at hc2
        rw [if_pos (.inr hc2)]
        exact ⟨rfl, fun h => absurd rfl h⟩
      · rw [if_neg hc]
        have hc2 := fun h => hc (hi.2 h)
        rw [head_size] at hc2
        rw [if_neg (by
          rintro (h | h)
          · simp at h
          · exact hc2 h)]
        exact ⟨rfl, fun _ => rfl⟩
  · rw [if_neg hs]
    have hbad : s.size < (headS d).size ∨ s.extract 0 (headS d).size ≠ headS d := by
      by_cases h : s.size < (headS d).size
      · exact .inl h
      · refine .inr fun e => hs ?_
        have e2 := congrArg (fun x => x.data.toList.take 4) e
        simp only [ex_take, head_list] at e2
        apply bytes_eq
        rw [ex_take]
        rw [List.take_take] at e2
        have hm : min 4 (headS d).size = 4 := by rw [head_size]; simp <;> omega
        rw [hm] at e2
        rw [e2]
        rfl
    rw [if_pos (.inr hbad)]
    exact ⟨rfl, fun h => absurd rfl h⟩
end Go.Proofs.YtaknmionaibodaaDoor.Store
