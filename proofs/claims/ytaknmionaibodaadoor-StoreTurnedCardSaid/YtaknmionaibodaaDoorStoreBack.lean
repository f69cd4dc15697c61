/-
Plain laws of a head and records put one behind the other: what store.Read finds in them, cut, turned and joined.
-/
import Derived.Test.YtaknmionaibodaaDoorStoreLaw
import Derived.Test.YtaknmionaibodaaDoorStoreGet2
import Derived.Test.YtaknmionaibodaaDoorCastNearMath
namespace Go.Proofs.YtaknmionaibodaaDoor.Store
open Go.RowKit Notch

theorem snumR_enc (s : ByteArray) (n : Nat) (r : List UInt8) (hn : n < 18446744073709551616) (h : s.data.toList = encL n ++ r) : numR s false = (n, ⟨r.toArray⟩, false) := by
  unfold numR
  rw [if_neg (by decide), h, readN_enc n hn r]
theorem stextR_enc (s x : ByteArray) (r : List UInt8) (m : Nat) (hm : x.size ≤ m) (hx : x.size < 18446744073709551616) (h : s.data.toList = encT x.data.toList ++ r) : textR s false (m : Int) = (x, ⟨r.toArray⟩, false) := by
  have h1 : s.data.toList = encL x.size ++ (x.data.toList ++ r) := by
    rw [h, encT, size_list, List.append_assoc]
  have h2 := snumR_enc s x.size _ hx h1
  have hz : (⟨(x.data.toList ++ r).toArray⟩ : ByteArray).size = x.size + r.length := by
    show (x.data.toList ++ r).toArray.size = _
    rw [List.size_toArray, List.length_append, size_list]
  unfold textR
  rw [h2]
  show (if (false = true) then _ else if (m : Int) < 0 ∨ (m : Int) < (x.size : Int) ∨ (⟨(x.data.toList ++ r).toArray⟩ : ByteArray).size < x.size then _ else _) = _
  rw [if_neg (by decide), if_neg (by omega)]
  have e1 : (ByteArray.extract ⟨(x.data.toList ++ r).toArray⟩ 0 x.size) = x := by
    rw [of_toList x _ rfl]
    refine of_toList _ _ ?_
    rw [ex_take]
    exact List.take_left' (by rw [size_list])
  have e2 : (ByteArray.extract ⟨(x.data.toList ++ r).toArray⟩ x.size (⟨(x.data.toList ++ r).toArray⟩ : ByteArray).size) = ⟨r.toArray⟩ := by
    refine of_toList _ _ ?_
    rw [ex_drop]
    exact List.drop_left' (by rw [size_list])
  exact Prod.ext e1 (Prod.ext e2 rfl)
theorem rec_enc (x d : ByteArray) (k : Nat) (t : List UInt8) (h1 : 1 ≤ k) (h3 : k ≤ 3) (hd : d.size ≤ 65536) (h : x.data.toList = encL k ++ (encT d.data.toList ++ t)) : recR x = (k, d, endN x ⟨t.toArray⟩ false) := by
  unfold recR
  rw [snumR_enc x k _ (by omega) h]
  simp only []
  rw [if_neg (by omega)]
  have e := stextR_enc ⟨(encT d.data.toList ++ t).toArray⟩ d t 65536 hd (by omega) rfl
  rw [show ((65536 : Nat) : Int) = 65536 from rfl] at e
  rw [e]
def validR (r : Nat × ByteArray) : Prop := 1 ≤ r.1 ∧ r.1 ≤ 3 ∧ r.2.size ≤ 65536
/-- A record put is read as it was. -/
theorem rec_put (x d : ByteArray) (k : Nat) (t : List UInt8) (hv : validR (k, d)) (h : x.data.toList = (putS k d).data.toList ++ t) : recR x = (k, d, (putS k d).size) := by
  obtain ⟨h1, h3, hd⟩ := hv
  simp only [] at h1 h3 hd
  have hl := congrArg List.length h
  rw [List.length_append, size_list, size_list, put_size] at hl
  rw [put_list] at h
  have h' : x.data.toList = (encL k ++ encT d.data.toList) ++ (be8 (rest (encL k ++ encT d.data.toList)) ++ t) := by
    rw [h, sealL, List.append_assoc]
  rw [rec_enc x d k _ h1 h3 hd (by rw [h', List.append_assoc]), put_size]
  have he := endN_seal x ⟨(be8 (rest (encL k ++ encT d.data.toList)) ++ t).toArray⟩ (encL k ++ encT d.data.toList) h'
  rw [he, if_neg]
  rintro (g | g)
  · omega
  · apply g
    rw [h, List.take_left']
    rw [sealL_length]
theorem head_enc (x s : ByteArray) (t : List UInt8) (hs : s.size ≤ 100000) (h : x.data.toList = (headS s).data.toList ++ t) : headR x = (s, (headS s).size) := by
  have hl := congrArg List.length h
  rw [List.length_append, size_list, size_list, head_size] at hl
  rw [head_list] at h
  have h' : x.data.toList = ([83, 84, 69, 80] ++ encT s.data.toList) ++ (be8 (rest ([83, 84, 69, 80] ++ encT s.data.toList)) ++ t) := by
    rw [h, sealL, List.append_assoc]
  unfold headR
  have h4 : 4 ≤ x.size := by
    rw [hl, List.length_append]
    simp only [List.length_cons, List.length_nil]
    omega
  have ht : takeR x false 4 = (x.extract 0 4, x.extract 4 x.size, false) := takeR_yes x 4 h4
  have e4 : x.extract 0 4 = STEP := by
    apply bytes_eq
    rw [ex_take, h', List.append_assoc]
    rfl
  rw [ht]
  simp only []
  rw [if_pos e4]
  have e := stextR_enc (x.extract 4 x.size) s (be8 (rest ([83, 84, 69, 80] ++ encT s.data.toList)) ++ t) 100000 hs (by omega) (by
    rw [ex_drop, h', List.append_assoc]
    rfl)
  rw [show ((100000 : Nat) : Int) = 100000 from rfl] at e
  rw [e]
  simp only []
  have he := endN_seal x ⟨(be8 (rest ([83, 84, 69, 80] ++ encT s.data.toList)) ++ t).toArray⟩ ([83, 84, 69, 80] ++ encT s.data.toList) h'
  rw [he, if_neg, head_size]
  rintro (g | g)
  · omega
  · apply g
    rw [h, List.take_left']
    rw [sealL_length]
theorem rec_nil (x : ByteArray) (h : x.data.toList = []) : (recR x).2.2 = 0 := by
  unfold recR
  rw [numR_nil x h]
  rfl
/-- What begins as a head does is no record. -/
theorem rec_step (x : ByteArray) (r : List UInt8) (h : x.data.toList = 83 :: r) : (recR x).2.2 = 0 := by
  unfold recR
  rw [numR_no x 83 r h (.inl (by decide))]
  rfl
theorem prefix_split {x P : ByteArray} (h2 : x.extract 0 P.size = P) : x.data.toList = P.data.toList ++ x.data.toList.drop P.size := by
  have := congrArg (fun a => a.data.toList) h2
  simp only [ex_take] at this
  rw [← this, List.take_append_drop]
/-- What a record's bytes begin with, and are not, is no record. -/
theorem rec_cut (x d : ByteArray) (k : Nat) (z : List UInt8) (hv : validR (k, d)) (hz : z ≠ []) (h : x.data.toList ++ z = (putS k d).data.toList) : (recR x).2.2 = 0 := by
  obtain ⟨e1, e2⟩ := rec_same x
  by_cases h0 : (recR x).2.2 = 0
  · exact h0
  exfalso
  have e := e2 h0
  rw [e] at h0
  unfold rrecR at h0 e
  have hb := textR_bd (numR x false).2.1 (numR x false).2.2 65536
  rw [show ((65536 : Nat) : Int) = 65536 from rfl] at hb
  generalize (numR x false).1 = k' at *
  generalize (textR (numR x false).2.1 (numR x false).2.2 65536).1 = d' at *
  split at h0
  · exact h0 rfl
  rename_i hc
  have hk3 : k' ≤ 3 := by
    rcases Nat.lt_or_ge 3 k' with g | g
    · exact absurd (Or.inr (Or.inl g)) hc
    · exact g
  have hk1 : 1 ≤ k' := by
    rcases Nat.lt_or_ge k' 1 with g | g
    · exact absurd (Or.inr (Or.inr (Or.inl g))) hc
    · exact g
  have hs : (putS k' d').size ≤ x.size := by
    rcases Nat.lt_or_ge x.size (putS k' d').size with g | g
    · exact absurd (Or.inr (Or.inr (Or.inr (Or.inl g)))) hc
    · exact g
  have hx : x.extract 0 (putS k' d').size = putS k' d' := Decidable.not_not.1 fun g => hc (Or.inr (Or.inr (Or.inr (Or.inr g))))
  have hsp := prefix_split hx
  have r1 := rec_put (putS k d) d' k' (x.data.toList.drop (putS k' d').size ++ z) ⟨hk1, hk3, hb.1⟩ (by rw [← h, hsp, List.append_assoc]; congr 1; rw [← hsp])
  have r2 := rec_put (putS k d) d k [] hv (by simp)
  rw [r1] at r2
  have r3 := congrArg (fun q => q.2.2) r2
  simp only [] at r3
  have hl := congrArg List.length h
  rw [List.length_append, size_list, size_list] at hl
  have : z.length ≠ 0 := fun g => hz (List.length_eq_zero_iff.1 g)
  omega
theorem head_cut (x s : ByteArray) (z : List UInt8) (hs : s.size ≤ 100000) (hz : z ≠ []) (h : x.data.toList ++ z = (headS s).data.toList) : (headR x).2 = 0 := by
  obtain ⟨e1, e2⟩ := head_same x
  by_cases h0 : (headR x).2 = 0
  · exact h0
  exfalso
  rw [e2 h0] at h0
  unfold rheadR at h0
  have hb := textR_bd (x.extract 4 x.size) false 100000
  rw [show ((100000 : Nat) : Int) = 100000 from rfl] at hb
  generalize (textR (x.extract 4 x.size) false 100000).1 = s' at *
  split at h0
  · exact h0 rfl
  split at h0
  · exact h0 rfl
  rename_i hc
  have hs' : (headS s').size ≤ x.size := by
    rcases Nat.lt_or_ge x.size (headS s').size with g | g
    · exact absurd (Or.inr (Or.inl g)) hc
    · exact g
  have hx : x.extract 0 (headS s').size = headS s' := Decidable.not_not.1 fun g => hc (Or.inr (Or.inr g))
  have hsp := prefix_split hx
  have r1 := head_enc (headS s) s' (x.data.toList.drop (headS s').size ++ z) hb.1 (by rw [← h, hsp, List.append_assoc]; congr 1; rw [← hsp])
  have r2 := head_enc (headS s) s [] hs (by simp)
  rw [r1] at r2
  have r3 := congrArg (fun q => q.2) r2
  simp only [] at r3
  have hl := congrArg List.length h
  rw [List.length_append, size_list, size_list] at hl
  have : z.length ≠ 0 := fun g => hz (List.length_eq_zero_iff.1 g)
  omega
theorem head_other (x : ByteArray) (c : UInt8) (r : List UInt8) (hc : c ≠ 83) (h : x.data.toList = c :: r) : (headR x).2 = 0 := by
  unfold headR
  by_cases h4 : x.size < 4
  · have ht : takeR x false 4 = (ByteArray.empty, ByteArray.empty, true) := takeR_no x 4 (by omega)
    rw [ht, if_neg (by decide)]
  · have ht : takeR x false 4 = (x.extract 0 4, x.extract 4 x.size, false) := takeR_yes x 4 (by omega)
    rw [ht]
    simp only []
    rw [if_neg]
    intro e
    have := congrArg (fun a => a.data.toList) e
    simp only [ex_take, h, List.take_succ_cons] at this
    have h2 : STEP.data.toList = [83, 84, 69, 80] := rfl
    rw [h2] at this
    injection this with g _
    exact hc g

/-- Records' bytes, one behind the other. -/
def catR (l : List (Nat × ByteArray)) : List UInt8 := l.flatMap fun r => (putS r.1 r.2).data.toList
theorem catR_cons (r : Nat × ByteArray) (l : List (Nat × ByteArray)) : catR (r :: l) = (putS r.1 r.2).data.toList ++ catR l := by simp [catR]
theorem catR_append (a b : List (Nat × ByteArray)) : catR (a ++ b) = catR a ++ catR b := by simp [catR]
/-- What Read tells of records that begin at u. -/
def recsOf : Nat → List (Nat × ByteArray) → List (Nat × ByteArray × Nat)
  | _, [] => []
  | u, r :: l => (r.1, r.2, u + (putS r.1 r.2).size) :: recsOf (u + (putS r.1 r.2).size) l
theorem recsOf_length : ∀ (l : List (Nat × ByteArray)) (u : Nat), (recsOf u l).length = l.length
  | [], _ => rfl
  | r :: l, u => by rw [recsOf, List.length_cons, recsOf_length l, List.length_cons]
theorem recsOf_flat : ∀ (l : List (Nat × ByteArray)) (u : Nat), flatR (recsOf u l) = l.flatMap fun r => [.int .u8 (r.1 : Int), .string r.2]
  | [], _ => rfl
  | r :: l, u => by
    have ih := recsOf_flat l (u + (putS r.1 r.2).size)
    rw [recsOf, List.flatMap_cons, ← ih]
    rfl
theorem endOf_more (n m : Nat) (y : Nat × ByteArray × Nat) (l : List (Nat × ByteArray × Nat)) : endOf n (y :: l) = endOf m (y :: l) := by
  unfold endOf
  rw [List.getLast?_eq_some_getLast (List.cons_ne_nil y l)]
theorem endOf_cons (n m : Nat) (x : Nat × ByteArray × Nat) (l : List (Nat × ByteArray × Nat)) (h : x.2.2 = m) : endOf n (x :: l) = endOf m l := by
  subst h
  cases l with
  | nil => rfl
  | cons y l =>
    rw [endOf_more x.2.2 n y l]
    unfold endOf
    rw [List.getLast?_cons_cons]
theorem recsOf_end : ∀ (l : List (Nat × ByteArray)) (u : Nat), endOf u (recsOf u l) = u + (catR l).length
  | [], u => by simp [recsOf, endOf, catR]
  | r :: l, u => by
    rw [recsOf, endOf_cons u (u + (putS r.1 r.2).size) _ _ rfl, recsOf_end l, catR_cons, List.length_append, size_list]
    omega
/-- Records behind one another are read as they were, up to where none begins. -/
theorem recsAt_put (x : ByteArray) (t : List UInt8) (h0 : (recR ⟨t.toArray⟩).2.2 = 0) (l : List (Nat × ByteArray)) : ∀ u : Nat, (∀ r ∈ l, validR r) → x.data.toList.drop u = catR l ++ t → u ≤ x.size → recsAt x u = recsOf u l := by
  induction l with
  | nil =>
    intro u _ h hu
    rw [recsAt_eq x u hu, if_pos]
    · rfl
    have : x.extract u x.size = ⟨t.toArray⟩ := by
      refine of_toList _ _ ?_
      rw [ex_drop, h]
      rfl
    rw [this]
    exact h0
  | cons r l ih =>
    intro u hv h hu
    obtain ⟨k, d⟩ := r
    rw [catR_cons, List.append_assoc] at h
    simp only [] at h
    have hr := rec_put (x.extract u x.size) d k (catR l ++ t) (hv (k, d) List.mem_cons_self) (by rw [ex_drop]; exact h)
    have hp : (putS k d).size ≠ 0 := by rw [put_size]; omega
    have hl := congrArg List.length h
    rw [List.length_drop, size_list, List.length_append, size_list] at hl
    have hd : x.data.toList.drop (u + (putS k d).size) = catR l ++ t := by rw [← List.drop_drop, h, List.drop_left' (size_list _)]
    have h2 := ih (u + (putS k d).size) (fun q hq => hv q (List.mem_cons_of_mem _ hq)) hd (by omega)
    rw [recsAt_eq x u hu, hr, recsOf]
    generalize (putS k d).size = z at *
    simp only []
    rw [if_neg hp, h2]
/-- A head with records behind it. -/
def laidB (s : ByteArray) (l : List (Nat × ByteArray)) : ByteArray := l.foldl (fun a r => a ++ putS r.1 r.2) (headS s)
theorem foldl_list (l : List (Nat × ByteArray)) : ∀ a : ByteArray, (l.foldl (fun a r => a ++ putS r.1 r.2) a).data.toList = a.data.toList ++ catR l := by
  induction l with
  | nil => intro a; simp [catR]
  | cons r l ih =>
    intro a
    rw [List.foldl_cons, ih, catR_cons, ByteArray.toList_data_append, List.append_assoc]
theorem laid_list (s : ByteArray) (l : List (Nat × ByteArray)) : (laidB s l).data.toList = (headS s).data.toList ++ catR l := foldl_list l _
/-- Where each one of them ends. -/
def endK (s : ByteArray) (l : List (Nat × ByteArray)) (i : Nat) : Nat := (laidB s (l.take i)).size
theorem endK_eq (s : ByteArray) (l : List (Nat × ByteArray)) (i : Nat) : endK s l i = (headS s).size + (catR (l.take i)).length := by
  unfold endK
  rw [← size_list, laid_list, List.length_append, size_list]
theorem laid_size (s : ByteArray) (l : List (Nat × ByteArray)) : (laidB s l).size = (headS s).size + (catR l).length := by
  rw [← size_list, laid_list, List.length_append, size_list]
theorem endK_zero (s : ByteArray) (l : List (Nat × ByteArray)) : endK s l 0 = (headS s).size := by rw [endK_eq]; simp [catR]
theorem laid_snoc (s : ByteArray) (l : List (Nat × ByteArray)) (r : Nat × ByteArray) : laidB s (l ++ [r]) = laidB s l ++ putS r.1 r.2 := by simp [laidB]
theorem endK_last (s : ByteArray) (l : List (Nat × ByteArray)) : endK s l l.length = (laidB s l).size := by unfold endK; rw [List.take_length]
theorem endK_succ (s : ByteArray) (l : List (Nat × ByteArray)) (i : Nat) (h : i < l.length) : endK s l (i + 1) = endK s l i + (putS l[i].1 l[i].2).size := by
  rw [endK_eq, endK_eq, List.take_succ_eq_append_getElem h, catR_append, List.length_append, Nat.add_assoc]
  congr 2
  simp [catR]
/-- What Read tells of what begins with a head and m records, and bears no more. -/
theorem read_laid (x s : ByteArray) (l : List (Nat × ByteArray)) (t : List UInt8) (hs : s.size ≤ 100000) (hv : ∀ r ∈ l, validR r) (h : x.data.toList = (laidB s l).data.toList ++ t) (h0 : (recR ⟨t.toArray⟩).2.2 = 0) :
    headR x = (s, (headS s).size) ∧ recsAt x (headS s).size = recsOf (headS s).size l := by
  rw [laid_list, List.append_assoc] at h
  refine ⟨head_enc x s _ hs h, recsAt_put x t h0 l _ hv ?_ ?_⟩
  · rw [h, List.drop_left' (size_list _)]
  · have hl := congrArg List.length h
    rw [size_list, List.length_append, size_list] at hl
    omega
/-- Cut. -/
theorem read_cut (s : ByteArray) (l : List (Nat × ByteArray)) (n m : Nat) (hs : s.size ≤ 100000) (hv : ∀ r ∈ l, validR r) (hm : m ≤ l.length) (h1 : endK s l m ≤ n) (h2 : m < l.length → n < endK s l (m + 1)) :
    headR ((laidB s l).extract 0 n) = (s, (headS s).size) ∧ recsAt ((laidB s l).extract 0 n) (headS s).size = recsOf (headS s).size (l.take m) := by
  have hsplit : (laidB s l).data.toList = (laidB s (l.take m)).data.toList ++ catR (l.drop m) := by
    rw [laid_list, laid_list, List.append_assoc, ← catR_append, List.take_append_drop]
  have hx : ((laidB s l).extract 0 n).data.toList = (laidB s (l.take m)).data.toList ++ (catR (l.drop m)).take (n - endK s l m) := by
    rw [ex_take, hsplit, List.take_append, size_list]
    have : (laidB s (l.take m)).size = endK s l m := rfl
    rw [this]
    congr 1
    apply List.take_of_length_le
    rw [size_list, this]
    exact h1
  refine read_laid _ s (l.take m) _ hs (fun r hr => hv r (List.mem_of_mem_take hr)) hx ?_
  by_cases hlt : m < l.length
  · have h3 := h2 hlt
    rw [endK_succ s l m hlt] at h3
    rw [List.drop_eq_getElem_cons hlt, catR_cons, List.take_append_of_le_length (by rw [size_list]; omega)]
    obtain ⟨r, hr⟩ : ∃ r, l[m] = r := ⟨_, rfl⟩
    rw [hr] at h3 ⊢
    refine rec_cut _ r.2 r.1 ((putS r.1 r.2).data.toList.drop (n - endK s l m)) (hv r (hr ▸ List.getElem_mem hlt)) ?_ ?_
    · intro e
      have := congrArg List.length e
      rw [List.length_drop, size_list, List.length_nil] at this
      omega
    · show List.take _ _ ++ _ = _
      rw [List.take_append_drop]
  · refine rec_nil _ ?_
    rw [List.drop_eq_nil_of_le (by omega)]
    simp [catR]
theorem read_cut_no (s : ByteArray) (l : List (Nat × ByteArray)) (n : Nat) (hs : s.size ≤ 100000) (h : n < endK s l 0) : (headR ((laidB s l).extract 0 n)).2 = 0 := by
  rw [endK_zero] at h
  refine head_cut _ s ((headS s).data.toList.drop n) hs ?_ ?_
  · intro e
    have := congrArg List.length e
    rw [List.length_drop, size_list, List.length_nil] at this
    omega
  · rw [ex_take, laid_list, List.take_append_of_le_length (by rw [size_list]; omega), List.take_append_drop]
/-- Joined. -/
theorem read_join (s t : ByteArray) (l : List (Nat × ByteArray)) (hs : s.size ≤ 100000) (hv : ∀ r ∈ l, validR r) :
    headR (laidB s l ++ laidB t []) = (s, (headS s).size) ∧ recsAt (laidB s l ++ laidB t []) (headS s).size = recsOf (headS s).size l := by
  refine read_laid _ s l (laidB t []).data.toList hs hv ByteArray.toList_data_append ?_
  refine rec_step _ ([84, 69, 80] ++ encT t.data.toList ++ be8 (rest ([83, 84, 69, 80] ++ encT t.data.toList))) ?_
  show ((headS t).data.toList) = _
  rw [head_list]
  rfl
theorem read_ahead (s : ByteArray) (l : List (Nat × ByteArray)) : (headR ((⟨#[120]⟩ : ByteArray) ++ laidB s l)).2 = 0 :=
  head_other _ 120 (laidB s l).data.toList (by decide) ByteArray.toList_data_append
theorem map_none (A : List UInt8) (j : Nat) (c : Prop) [Decidable c] (f : UInt8 → UInt8) (hc : ∀ x, (if c then f x else x) = x) : (A[j]?).map (fun x => if c then f x else x) = A[j]? := by
  simp only [hc]
  exact congrFun Option.map_id _
theorem flip_left (A B : List UInt8) (n m : Nat) : flipL (A ++ B) (A.length + n) m 7 = A ++ flipL B n m 7 := by
  apply List.ext_getElem?
  intro j
  rw [flipL_get]
  by_cases hj : j < A.length
  · rw [List.getElem?_append_left hj, List.getElem?_append_left hj]
    exact map_none A j _ _ (fun x => if_neg (by omega))
  · rw [List.getElem?_append_right (by omega), List.getElem?_append_right (by omega), flipL_get]
    congr 1
    funext x
    by_cases h1 : n ≤ j - A.length ∧ j - A.length < n + 7
    · rw [if_pos h1, if_pos (by omega)]
      congr 4
      omega
    · rw [if_neg h1, if_neg (by omega)]
theorem flip_right (A B : List UInt8) (n m : Nat) (h : n + 7 ≤ A.length) : flipL (A ++ B) n m 7 = flipL A n m 7 ++ B := by
  apply List.ext_getElem?
  intro j
  rw [flipL_get]
  by_cases hj : j < A.length
  · rw [List.getElem?_append_left hj, List.getElem?_append_left (by rw [flipL_length]; exact hj), flipL_get]
  · rw [List.getElem?_append_right (by omega), List.getElem?_append_right (by rw [flipL_length]; omega), flipL_length]
    exact map_none B _ _ _ (fun x => if_neg (by omega))
theorem sealed_put (k : Nat) (d : ByteArray) : openL (putS k d).data.toList = true := by
  have h8 : 8 ≤ (putS k d).data.toList.length := by rw [size_list, put_size]; omega
  rw [sealed_iff _ h8]
  refine decide_eq_true ?_
  rw [put_list, sealL_length]
  congr 1
  rw [sealL, List.take_left']
  omega
/-- A record of which bytes of Data and the seal are turned is none. -/
theorem rec_turned (x d : ByteArray) (k n m : Nat) (t : List UInt8) (hv : validR (k, d)) (hm : m % 72057594037927936 ≠ 0) (h : x.data.toList = flipL (putS k d).data.toList n m 7 ++ t) (hn : (putS k d).size - 8 - d.size ≤ n) (hn7 : n + 7 ≤ (putS k d).size) : (recR x).2.2 = 0 := by
  obtain ⟨h1, h3, hd⟩ := hv
  simp only [] at h1 h3 hd
  have hps := put_size k d
  have hsz : (encL k ++ encT d.data.toList).length = (encL k ++ encL d.size).length + d.size := by
    rw [encT, ← List.append_assoc, List.length_append, size_list]
  have hop := near_flip (putS k d).data.toList n m (by rw [size_list]; exact hn7) (by rw [size_list, hps]; omega) hm (sealed_put k d)
  have hpl : (putS k d).data.toList = (encL k ++ encL d.size) ++ (d.data.toList ++ be8 (rest (encL k ++ encT d.data.toList))) := by
    rw [put_list, sealL, encT, size_list]
    simp only [List.append_assoc]
  obtain ⟨i, rfl⟩ : ∃ i, n = (encL k ++ encL d.size).length + i := ⟨n - (encL k ++ encL d.size).length, by omega⟩
  rw [hpl, flip_left] at h hop
  have hfl : (flipL (d.data.toList ++ be8 (rest (encL k ++ encT d.data.toList))) i m 7).length = d.size + 8 := by rw [flipL_length, List.length_append, size_list, be8_length]
  generalize flipL (d.data.toList ++ be8 (rest (encL k ++ encT d.data.toList))) i m 7 = F at *
  have hsz2 : (⟨(F.take d.size).toArray⟩ : ByteArray).size = d.size := by
    show (F.take d.size).toArray.size = _
    rw [List.size_toArray, List.length_take]
    omega
  have hx : x.data.toList = encL k ++ (encT (⟨(F.take d.size).toArray⟩ : ByteArray).data.toList ++ (F.drop d.size ++ t)) := by
    rw [h, encT, size_list, hsz2]
    simp only [List.append_assoc]
    congr 2
    show F ++ t = F.take d.size ++ (F.drop d.size ++ t)
    rw [← List.append_assoc, List.take_append_drop]
  rw [rec_enc x _ k _ h1 h3 (by rw [hsz2]; exact hd) hx]
  simp only []
  have hl := congrArg List.length h
  rw [size_list, List.length_append, List.length_append, hfl] at hl
  have hr : (⟨(F.drop d.size ++ t).toArray⟩ : ByteArray).size = 8 + t.length := by
    show (F.drop d.size ++ t).toArray.size = _
    rw [List.size_toArray, List.length_append, List.length_drop]
    omega
  unfold endN
  rw [hr]
  split
  · rfl
  rename_i hc
  have he : x.data.toList.take (x.size - (8 + t.length) + 8) = (encL k ++ encL d.size) ++ F := by
    rw [h, List.take_left']
    rw [List.length_append, hfl]
    omega
  rw [he, hop]
  rfl
/-- Turned. -/
theorem read_turned (x s : ByteArray) (l : List (Nat × ByteArray)) (j n m : Nat) (hs : s.size ≤ 100000) (hv : ∀ r ∈ l, validR r) (hj : j < l.length) (hm : m % 72057594037927936 ≠ 0) (hx : x.data.toList = flipL (laidB s l).data.toList n m 7)
    (hn : endK s l (j + 1) - 8 - l[j].2.size ≤ n) (hn7 : n + 7 ≤ endK s l (j + 1)) :
    headR x = (s, (headS s).size) ∧ recsAt x (headS s).size = recsOf (headS s).size (l.take j) := by
  have hsplit : (laidB s l).data.toList = (laidB s (l.take j)).data.toList ++ ((putS l[j].1 l[j].2).data.toList ++ catR (l.drop (j + 1))) := by
    rw [← catR_cons, ← List.drop_eq_getElem_cons hj, laid_list, laid_list, List.append_assoc, ← catR_append, List.take_append_drop]
  have hes := endK_succ s l j hj
  have hval := hv _ (List.getElem_mem hj)
  have hps := put_size l[j].1 l[j].2
  generalize l[j] = r at *
  have hek : (laidB s (l.take j)).data.toList.length = endK s l j := size_list _
  have hdl : r.2.size ≤ (encL r.1 ++ encT r.2.data.toList).length := by
    rw [encT, List.length_append, List.length_append, size_list]; omega
  obtain ⟨i, rfl⟩ : ∃ i, n = (laidB s (l.take j)).data.toList.length + i := ⟨n - endK s l j, by rw [hek]; omega⟩
  rw [hek] at hn hn7
  rw [hsplit, flip_left, flip_right _ _ _ _ (by rw [size_list]; omega)] at hx
  exact read_laid x s (l.take j) _ hs (fun r hr => hv r (List.mem_of_mem_take hr)) hx (rec_turned _ r.2 r.1 i m (catR (l.drop (j + 1))) hval hm rfl (by omega) (by omega))
end Go.Proofs.YtaknmionaibodaaDoor.Store
