/-
nat.told, Norm, Of, long: a number is told in its normal form, or is too long.
-/
import Derived.Test.YtljgiagdmnedpaaNatNormal
namespace Go.Proofs.Ytljgiagdmnedpaa.Nat_
open Go.RowKit

theorem nl_iff (n : Nat) : nl n ≤ 2048 ↔ n < Lim := lim_iff n
/-- What a function tells of the number n: n in its normal form, or that it is too long. -/
def Told (B : Nat) (w : World) (n : Nat) (e : Ending) : Prop :=
  (n < Lim ∧ ∃ a c, e = .returned (.tuple #[.slice a (nl n) c, .int .i64 0]) ∧ NN B w (.slice a (nl n) c) n) ∨
  (Lim ≤ n ∧ e = .returned (.tuple #[.slice none 0 0, .int .i64 3]))
theorem Told.ok {B : Nat} {w : World} {n : Nat} {e : Ending} (h : Told B w n e) (hn : n < Lim) : ∃ a c, e = .returned (.tuple #[.slice a (nl n) c, .int .i64 0]) ∧ NN B w (.slice a (nl n) c) n := by
  rcases h with ⟨-, h⟩ | ⟨h, -⟩
  · exact h
  · omega
theorem Told.long {B : Nat} {w : World} {n : Nat} {e : Ending} (h : Told B w n e) (hn : Lim ≤ n) : e = .returned (.tuple #[.slice none 0 0, .int .i64 3]) := by
  rcases h with ⟨h, -⟩ | ⟨-, h⟩
  · omega
  · exact h
theorem Told.ge {B C : Nat} {w : World} {n : Nat} {e : Ending} (h : Told B w n e) (hb : C ≤ B) : Told C w n e := by
  rcases h with ⟨h, a, c, h1, h2⟩ | h
  · exact .inl ⟨h, a, c, h1, h2.ge hb⟩
  · exact .inr h

set_option maxHeartbeats 1000000 in
theorem told_lb (v : Value) (l : List Nat) (n : Nat) (w : World) (h : Lb w v l) (hv : val l = n) :
    Calls Try.prog 27 #[v] w fun e w' => Told w.heap.size w' n e ∧ Below w.heap.size w w' := by
  have hi := nl_iff n
  have hz := nl_zero n
  go_enter Try.func27, Try.ntmps27
  go_wp2_with fail
  refine (normal_lb v l _ h).mono ?_
  rw [hv]
  rintro e w' ⟨a, c, rfl, ho, hb⟩
  have hs : nl n ≤ 4000000 := ho.2.1
  by_cases h1 : nl n ≤ 2048
  · by_cases h2 : nl n = 0
    · have hn := hz.1 h2
      rw [h2] at ho ⊢
      go_wp2
      go_ret2
      refine ⟨.inl ⟨by omega, none, 0, ?_, ?_⟩, hb⟩
      · rw [h2]; rfl
      · subst hn
        exact NN.nil _ _
    · have hl := hi.1 h1
      go_wp2
      go_ret2
      exact ⟨.inl ⟨hl, a, c, rfl, ho, by omega⟩, hb⟩
  · have hl : Lim ≤ n := by omega
    clear hi hz
    have HL := Lib.hid hl
    clear hl
    go_wp2
    go_ret2
    exact ⟨.inr ⟨HL.out, rfl⟩, hb⟩
theorem told_any (v : Value) (n : Nat) (w : World) (h : Nm w v n) :
    Calls Try.prog 27 #[v] w fun e w' => Told w.heap.size w' n e ∧ Below w.heap.size w w' := by
  obtain ⟨l, hl, hv, -⟩ := h
  exact told_lb v l n w hl hv
theorem norm_any (v : Value) (n : Nat) (w : World) (h : Nm w v n) :
    Calls Try.prog 38 #[v] w fun e w' => Told w.heap.size w' n e ∧ Below w.heap.size w w' := by
  go_enter Try.func38, Try.ntmps38
  go_wp2_with fail
  refine (told_any v n _ h).mono ?_
  rintro e w' ⟨⟨hl, a, c, rfl, ho⟩ | ⟨hl, rfl⟩, hb⟩
  · go_wp2
    go_ret2
    exact ⟨.inl ⟨hl, a, c, rfl, ho⟩, hb⟩
  · go_wp2
    go_ret2
    exact ⟨.inr ⟨hl, rfl⟩, hb⟩
/-- Cells laid anew hold a number of one limb. -/
theorem Nm.one (w : World) (e : TypeId) (x : Nat) (hx : x < 18446744073709551616) : Nm (w.alloc (.cells #[.int .u64 (x : Int)] e)) (.slice (some ⟨w.heap.size, 0, none⟩) 1 1) x := by
  refine ⟨[x], ⟨_, _, _, rfl, rfl, Nat.le_refl _, by unfold maxLen; decide, by decide, by simpa using hx, fun _ => ⟨w.heap.size, 0, rfl, by simp, fun i y hi => ?_⟩⟩, by simp [val], by simp⟩
  match i, hi with
  | 0, hi =>
    obtain rfl : x = y := by simpa using hi
    exact (Blk.new w e [.int .u64 (x : Int)]).cell 0
theorem of_any (x : Nat) (w : World) (hx : x < 18446744073709551616) :
    Calls Try.prog 16 #[.int .u64 (x : Int)] w fun e w' => ∃ a c, e = .returned (.slice a (nl x) c) ∧ NN w.heap.size w' (.slice a (nl x) c) x ∧ Below w.heap.size w w' := by
  go_enter Try.func16, Try.ntmps16
  go_wp2_with fail
  refine (told_any _ x _ (Nm.one w _ x hx)).mono ?_
  rintro e w' ⟨ht, hb⟩
  obtain ⟨a, c, rfl, ho⟩ := ht.ok (lim_small x 1 (by decide) (by simpa using hx))
  go_wp2
  go_ret
  have hb0 := (Below.refl w.heap.size w).alloc (Nat.le_refl _) (.cells #[.int .u64 (x : Int)] 54)
  exact ⟨a, c, rfl, ho.ge (by simp), hb0.trans (hb.mono (by simp))⟩

/-! long -/
def Nms (w : World) (b off : Nat) (vs : List Value) (ns : List Nat) : Prop :=
  b < w.heap.size ∧ vs.length = ns.length ∧ (∀ (i : Nat) (v : Value), vs[i]? = some v → w.cell? ⟨b, off + i, none⟩ = some v) ∧ ∀ (i : Nat) (v : Value) (n : Nat), vs[i]? = some v → ns[i]? = some n → Nm w v n
theorem Nms.below {w w' : World} {b off : Nat} {vs : List Value} {ns : List Nat} (h : Nms w b off vs ns) (hb : Below w.heap.size w w') : Nms w' b off vs ns :=
  ⟨Nat.lt_of_lt_of_le h.1 hb.size, h.2.1, fun i v hi => (hb.cell (p := ⟨b, off + i, none⟩) h.1).trans (h.2.2.1 i v hi), fun i v n hi hn => (h.2.2.2 i v n hi hn).below hb⟩
theorem longf_any (v : Value) (n : Nat) (w : World) (h : Nm w v n) :
    Calls Try.prog 60 #[v] w fun e w' => e = .returned (.bool (decide (Lim ≤ n))) ∧ Below w.heap.size w w' := by
  have hi := nl_iff n
  go_enter Try.func60, Try.ntmps60
  go_wp2_with fail
  refine (normal_any v n _ h).mono ?_
  rintro e w' ⟨a, c, rfl, ho, hb⟩
  go_wp2
  go_ret
  refine ⟨ret_bool ?_, hb⟩
  rw [decide_eq_decide]
  omega
set_option maxHeartbeats 1000000 in
theorem index_any (b off len cap : Nat) (vs : List Value) (ns : List Nat) (w : World) (h : Nms w b off vs ns) (hl : vs.length = len) (hlen : len ≤ 1000) (hlc : len ≤ cap) :
    Calls Try.prog 70 #[.slice (some ⟨b, off, none⟩) len cap, .func (.func 60) #[] #[]] w fun e w' =>
      ∃ k : Int, e = .returned (.int .i64 k) ∧ decide (0 ≤ k) = (ns.any fun n => decide (Lim ≤ n)) ∧ Below w.heap.size w w' := by
  go_enter Try.func70, Try.ntmps70
  go_wp2
  go_loopw [8] (fun i wr => ∃ j : Nat, j ≤ len ∧ i = .int .i64 (j : Int) ∧ Hid (∀ n ∈ ns.take j, ¬ Lim ≤ n) ∧ Below w.heap.size w wr) (fun i _ => len - (intOf i).toNat)
  case atStart => exact ⟨0, Nat.zero_le _, rfl, by intro n hn; simp at hn, Below.refl _ _⟩
  case round =>
    obtain ⟨j, hj, rfl, HN, hB⟩ := hrel
    have hw := h.below hB
    by_cases hlt : j < len
    · have hjv : j < vs.length := by omega
      have hjn : j < ns.length := by have := h.2.1; omega
      have hcell := hw.2.2.1 j _ (List.getElem?_eq_getElem hjv)
      have hnm := hw.2.2.2 j _ _ (List.getElem?_eq_getElem hjv) (List.getElem?_eq_getElem hjn)
      have e1 : ns.take (j + 1) = ns.take j ++ [ns[j]] := List.take_succ_eq_append_getElem hjn
      have e2 : ns[j] ∈ ns := List.getElem_mem hjn
      generalize vs[j] = v at *
      generalize ns[j] = n at *
      go_wp2_with fail
      refine (longf_any v n _ hnm).mono ?_
      rintro e w' ⟨rfl, hb⟩
      have hB' := hB.trans (hb.mono hB.size)
      by_cases hL : Lim ≤ n
      · rw [decide_eq_true hL]
        go_wp2
        go_ret
        refine ⟨_, rfl, ?_, hB'⟩
        have : (ns.any fun n => decide (Lim ≤ n)) = true := List.any_eq_true.2 ⟨n, e2, by simpa using hL⟩
        rw [this]
        simp
      · rw [decide_eq_false hL]
        go_wp2
        go_round
        case rel =>
          refine ⟨j + 1, by omega, by simp, ?_, hB'⟩
          intro m hm
          rw [e1] at hm
          rcases List.mem_append.1 hm with hm | hm
          · exact HN m hm
          · obtain rfl : m = n := by simpa using hm
            exact hL
        case measure => simp [intOf]; omega
    · obtain rfl : j = len := by omega
      go_wp2
      go_ret
      refine ⟨_, rfl, ?_, hB⟩
      have : (ns.any fun n => decide (Lim ≤ n)) = false := by
        rw [List.any_eq_false]
        intro n hn
        have := HN n (by rw [List.take_of_length_le (by have := h.2.1; rw [← this]; exact Nat.le_of_eq hl)]; exact hn)
        simpa using this
      rw [this]
      simp
theorem contains_any (b off len cap : Nat) (vs : List Value) (ns : List Nat) (w : World) (h : Nms w b off vs ns) (hl : vs.length = len) (hlen : len ≤ 1000) (hlc : len ≤ cap) :
    Calls Try.prog 59 #[.slice (some ⟨b, off, none⟩) len cap, .func (.func 60) #[] #[]] w fun e w' =>
      e = .returned (.bool (ns.any fun n => decide (Lim ≤ n))) ∧ Below w.heap.size w w' := by
  go_enter Try.func59, Try.ntmps59
  go_wp2_with fail
  refine (index_any b off len cap vs ns _ h hl hlen hlc).mono ?_
  rintro e w' ⟨k, rfl, hk, hb⟩
  go_wp2
  go_ret
  refine ⟨ret_bool ?_, hb⟩
  rw [← hk]
theorem long_any (b off len cap : Nat) (vs : List Value) (ns : List Nat) (w : World) (h : Nms w b off vs ns) (hl : vs.length = len) (hlen : len ≤ 1000) (hlc : len ≤ cap) :
    Calls Try.prog 44 #[.slice (some ⟨b, off, none⟩) len cap] w fun e w' => e = .returned (.bool (ns.any fun n => decide (Lim ≤ n))) ∧ Below w.heap.size w w' := by
  go_enter Try.func44, Try.ntmps44
  go_wp2_with fail
  refine (contains_any b off len cap vs ns _ h hl hlen hlc).mono ?_
  rintro e w' ⟨rfl, hb⟩
  go_wp2
  go_ret
  exact ⟨rfl, hb⟩
theorem long1_any (v : Value) (n : Nat) (w0 w : World) (e : TypeId) (hw : w = w0.alloc (.cells #[v] e)) (h : Nm w0 v n) :
    Calls Try.prog 44 #[.slice (some ⟨w0.heap.size, 0, none⟩) 1 1] w fun e w' => e = .returned (.bool (decide (Lim ≤ n))) ∧ Below w.heap.size w w' := by
  subst hw
  have hb0 := (Below.refl w0.heap.size w0).alloc (Nat.le_refl _) (.cells #[v] e)
  refine (long_any w0.heap.size 0 1 1 [v] [n] _ ⟨by simp, rfl, ?_, ?_⟩ rfl (by decide) (Nat.le_refl _)).mono ?_
  · intro i u hi
    rw [Nat.zero_add]
    exact ((Blk.new w0 e [v]).cell i).trans hi
  · intro i u m hi hm
    match i, hi, hm with
    | 0, hi, hm =>
      obtain rfl : v = u := by simpa using hi
      obtain rfl : n = m := by simpa using hm
      exact h.below hb0
  · rintro e w' ⟨rfl, hb⟩
    exact ⟨by simp, hb⟩
theorem long2_any (v u : Value) (n m : Nat) (w0 w : World) (e : TypeId) (hw : w = w0.alloc (.cells #[v, u] e)) (h : Nm w0 v n) (h' : Nm w0 u m) :
    Calls Try.prog 44 #[.slice (some ⟨w0.heap.size, 0, none⟩) 2 2] w fun e w' => e = .returned (.bool (decide (Lim ≤ n) || decide (Lim ≤ m))) ∧ Below w.heap.size w w' := by
  subst hw
  have hb0 := (Below.refl w0.heap.size w0).alloc (Nat.le_refl _) (.cells #[v, u] e)
  refine (long_any w0.heap.size 0 2 2 [v, u] [n, m] _ ⟨by simp, rfl, ?_, ?_⟩ rfl (by decide) (Nat.le_refl _)).mono ?_
  · intro i x hi
    rw [Nat.zero_add]
    exact ((Blk.new w0 e [v, u]).cell i).trans hi
  · intro i x y hi hm
    match i, hi, hm with
    | 0, hi, hm =>
      obtain rfl : v = x := by simpa using hi
      obtain rfl : n = y := by simpa using hm
      exact h.below hb0
    | 1, hi, hm =>
      obtain rfl : u = x := by simpa using hi
      obtain rfl : m = y := by simpa using hm
      exact h'.below hb0
  · rintro e w' ⟨rfl, hb⟩
    exact ⟨by simp, hb⟩
theorem long2_yes (v u : Value) (n m : Nat) (w0 w : World) (e : TypeId) (hw : w = w0.alloc (.cells #[v, u] e)) (h : Nm w0 v n) (h' : Nm w0 u m) (hL : Lim ≤ n ∨ Lim ≤ m) :
    Calls Try.prog 44 #[.slice (some ⟨w0.heap.size, 0, none⟩) 2 2] w fun e w' => e = .returned (.bool true) ∧ Below w.heap.size w w' := by
  refine (long2_any v u n m w0 w e hw h h').mono ?_
  rintro e w' ⟨rfl, hb⟩
  refine ⟨ret_bool ?_, hb⟩
  rcases hL with h | h <;> simp [h]
theorem long2_no (v u : Value) (n m : Nat) (w0 w : World) (e : TypeId) (hw : w = w0.alloc (.cells #[v, u] e)) (h : Nm w0 v n) (h' : Nm w0 u m) (hn : n < Lim) (hm : m < Lim) :
    Calls Try.prog 44 #[.slice (some ⟨w0.heap.size, 0, none⟩) 2 2] w fun e w' => e = .returned (.bool false) ∧ Below w.heap.size w w' := by
  refine (long2_any v u n m w0 w e hw h h').mono ?_
  rintro e w' ⟨rfl, hb⟩
  refine ⟨ret_bool ?_, hb⟩
  simp [hn, hm]
theorem long1_yes (v : Value) (n : Nat) (w0 w : World) (e : TypeId) (hw : w = w0.alloc (.cells #[v] e)) (h : Nm w0 v n) (hL : Lim ≤ n) :
    Calls Try.prog 44 #[.slice (some ⟨w0.heap.size, 0, none⟩) 1 1] w fun e w' => e = .returned (.bool true) ∧ Below w.heap.size w w' := by
  refine (long1_any v n w0 w e hw h).mono ?_
  rintro e w' ⟨rfl, hb⟩
  exact ⟨ret_bool (by simp [hL]), hb⟩
theorem long1_no (v : Value) (n : Nat) (w0 w : World) (e : TypeId) (hw : w = w0.alloc (.cells #[v] e)) (h : Nm w0 v n) (hL : n < Lim) :
    Calls Try.prog 44 #[.slice (some ⟨w0.heap.size, 0, none⟩) 1 1] w fun e w' => e = .returned (.bool false) ∧ Below w.heap.size w w' := by
  refine (long1_any v n w0 w e hw h).mono ?_
  rintro e w' ⟨rfl, hb⟩
  exact ⟨ret_bool (by simp [hL]), hb⟩
end Go.Proofs.Ytljgiagdmnedpaa.Nat_
