/-
The arithmetic of CastNear: of two texts that are alike but for seven bytes behind one another, one at most is sealed.
-/
import Derived.Test.YtaknmionaibodaaDoorCastSeal
namespace Go.Proofs.YtaknmionaibodaaDoor

theorem be_inj : ∀ (a b : List UInt8), a.length = b.length → be a = be b → a = b
  | [], [], _, _ => rfl
  | [], _ :: _, h, _ => by simp at h
  | _ :: _, [], h, _ => by simp at h
  | x :: a, y :: b, h, e => by
    have h' : a.length = b.length := by simpa using h
    have ea := be_append [x] a
    have eb := be_append [y] b
    simp only [List.singleton_append] at ea eb
    have ex : be [x] = x.toNat := by simp [be]
    have ey : be [y] = y.toNat := by simp [be]
    have la := be_lt a
    have lb := be_lt b
    rw [ea, eb, ex, ey, h'] at e
    rw [h'] at la
    have hxy : x.toNat = y.toNat := by
      have h1 : (x.toNat * 256 ^ b.length + be a) / 256 ^ b.length = x.toNat := by
        rw [Nat.mul_comm, Nat.mul_add_div (Nat.pow_pos (by decide)), Nat.div_eq_of_lt la, Nat.add_zero]
      have h2 : (y.toNat * 256 ^ b.length + be b) / 256 ^ b.length = y.toNat := by
        rw [Nat.mul_comm, Nat.mul_add_div (Nat.pow_pos (by decide)), Nat.div_eq_of_lt lb, Nat.add_zero]
      rw [← h1, ← h2, e]
    rw [hxy] at e
    have := be_inj a b h' (Nat.add_left_cancel e)
    rw [this, UInt8.toNat_inj.1 hxy]

theorem openL_split (o t : List UInt8) (h : t.length = 8) : openL (o ++ t) = (be t == rest o) := by
  unfold openL
  have e : (o ++ t).length - 8 = o.length := by simp [h]
  rw [e, List.take_left, List.drop_left, decide_eq_true (by simp [h]), Bool.true_and]

theorem more_split (o w : List UInt8) : rest (o ++ w) = (rest o * 256 ^ w.length + be w) % P61 := (more_append 1 o w).symm

theorem cancelR (a c L : Nat) (h : (a * 256 ^ L) % P61 = (c * 256 ^ L) % P61) : a % P61 = c % P61 := by
  induction L with
  | zero => simpa using h
  | succ L ih =>
    apply ih
    rw [Nat.pow_succ, ← Nat.mul_assoc, ← Nat.mul_assoc] at h
    generalize a * 256 ^ L = x at *
    generalize c * 256 ^ L = y at *
    unfold P61 at *
    omega
theorem more_injR (a c : Nat) (l : List UInt8) (h : more a l = more c l) : a % P61 = c % P61 := by
  unfold more at h
  refine cancelR a c l.length ?_
  generalize a * 256 ^ l.length = x at *
  generalize c * 256 ^ l.length = y at *
  unfold P61 at *
  omega

theorem cross (Y w1 w1' t t' : Nat) (h : t = (Y + w1) % 2305843009213693951) (h' : t' = (Y + w1') % 2305843009213693951) (b : w1 < 281474976710656) (b' : w1' < 281474976710656) :
    (t : Int) - t' = w1 - w1' ∨ (t : Int) - t' = w1 - w1' + 2305843009213693951 ∨ (t : Int) - t' = w1 - w1' - 2305843009213693951 := by
  have lt : t < 2305843009213693951 := by omega
  have lt' : t' < 2305843009213693951 := by omega
  obtain ⟨m, hm⟩ : ∃ m : Int, (t : Int) - t' = w1 - w1' + 2305843009213693951 * m := by
    refine ⟨(Y + w1' : Nat) / 2305843009213693951 - (Y + w1 : Nat) / 2305843009213693951, ?_⟩
    omega
  have m1 : -1 ≤ m := by omega
  have m2 : m ≤ 1 := by omega
  have m3 : m = -1 ∨ m = 0 ∨ m = 1 := by omega
  clear h h'
  rcases m3 with rfl | rfl | rfl <;> omega
theorem lt_mod {t y : Nat} (h : t = y % 2305843009213693951) : t < 2305843009213693951 := by rw [h]; exact Nat.mod_lt _ (by decide)
/-- Wherever seven bytes stand. -/
theorem near (A W W' C : List UInt8) (hW : W.length = 7) (hW' : W'.length = 7) (hN : 1 ≤ A.length + C.length)
    (h : openL (A ++ (W ++ C)) = true) (h' : openL (A ++ (W' ++ C)) = true) : W = W' := by
  apply be_inj W W' (by omega)
  have lw := be_lt W
  have lw' := be_lt W'
  rw [hW] at lw
  rw [hW'] at lw'
  by_cases h8 : 8 ≤ C.length
  · have hC : C = C.take (C.length - 8) ++ C.drop (C.length - 8) := (List.take_append_drop _ _).symm
    have hd : (C.drop (C.length - 8)).length = 8 := by simp; omega
    generalize C.take (C.length - 8) = C1 at *
    generalize C.drop (C.length - 8) = C2 at *
    subst hC
    rw [show A ++ (W ++ (C1 ++ C2)) = (A ++ W ++ C1) ++ C2 by simp, openL_split _ _ hd, beq_iff_eq] at h
    rw [show A ++ (W' ++ (C1 ++ C2)) = (A ++ W' ++ C1) ++ C2 by simp, openL_split _ _ hd, beq_iff_eq] at h'
    have e : rest (A ++ W ++ C1) = rest (A ++ W' ++ C1) := h.symm.trans h'
    unfold rest at e
    rw [← more_append 1 (A ++ W) C1, ← more_append 1 (A ++ W') C1] at e
    have e2 := more_injR _ _ _ e
    change rest (A ++ W) % P61 = rest (A ++ W') % P61 at e2
    rw [more_split, more_split, hW, hW', Nat.mod_mod, Nat.mod_mod] at e2
    generalize rest A * 256 ^ 7 = y at *
    unfold P61 at e2
    omega
  · by_cases h1 : C.length = 0
    · have hA : 1 ≤ A.length := by omega
      have hc : C = [] := List.eq_nil_of_length_eq_zero h1
      subst hc
      have hs : A = A.take (A.length - 1) ++ A.drop (A.length - 1) := (List.take_append_drop _ _).symm
      have hd : (A.drop (A.length - 1)).length = 1 := by simp; omega
      generalize A.take (A.length - 1) = A1 at *
      generalize A.drop (A.length - 1) = A2 at *
      subst hs
      rw [show A1 ++ A2 ++ (W ++ []) = A1 ++ (A2 ++ W) by simp, openL_split _ _ (by simp; omega), beq_iff_eq] at h
      rw [show A1 ++ A2 ++ (W' ++ []) = A1 ++ (A2 ++ W') by simp, openL_split _ _ (by simp; omega), beq_iff_eq] at h'
      have e := h.trans h'.symm
      rw [be_append, be_append, hW, hW'] at e
      omega
    · -- the window goes over the end of the text, or begins just behind it
      have hq : C.length = 1 ∨ C.length = 2 ∨ C.length = 3 ∨ C.length = 4 ∨ C.length = 5 ∨ C.length = 6 ∨ C.length = 7 := by omega
      have hs : W = W.take (C.length - 1) ++ W.drop (C.length - 1) := (List.take_append_drop _ _).symm
      have hs' : W' = W'.take (C.length - 1) ++ W'.drop (C.length - 1) := (List.take_append_drop _ _).symm
      have l1 : (W.take (C.length - 1)).length = C.length - 1 := by simp; omega
      have l2 : (W.drop (C.length - 1)).length = 8 - C.length := by simp; omega
      have l1' : (W'.take (C.length - 1)).length = C.length - 1 := by simp; omega
      have l2' : (W'.drop (C.length - 1)).length = 8 - C.length := by simp; omega
      generalize W.take (C.length - 1) = W1 at *
      generalize W.drop (C.length - 1) = W2 at *
      generalize W'.take (C.length - 1) = W1' at *
      generalize W'.drop (C.length - 1) = W2' at *
      subst hs hs'
      rw [show A ++ (W1 ++ W2 ++ C) = (A ++ W1) ++ (W2 ++ C) by simp, openL_split _ _ (by simp; omega), beq_iff_eq, more_split, be_append] at h
      rw [show A ++ (W1' ++ W2' ++ C) = (A ++ W1') ++ (W2' ++ C) by simp, openL_split _ _ (by simp; omega), beq_iff_eq, more_split, be_append] at h'
      have b1 := be_lt W1
      have b1' := be_lt W1'
      have b2 := be_lt W2
      have b2' := be_lt W2'
      have bc := be_lt C
      rw [be_append W1 W2, be_append W1' W2']
      rw [l1] at h b1
      rw [l1'] at h' b1'
      rw [l2] at b2
      rw [l2'] at b2'
      rw [l2, l2']
      generalize be W1 = w1 at *
      generalize be W2 = w2 at *
      generalize be W1' = w1' at *
      generalize be W2' = w2' at *
      generalize be C = c at *
      generalize rest A = r at *
      unfold P61 at h h'
      have k : w1 = w1' ∧ w2 = w2' := by
        rcases hq with q | q | q | q | q | q | q <;> rw [q] at h h' b1 b1' b2 b2' bc <;> (simp only [Nat.reduceSub, Nat.reducePow] at h h' b1 b1' b2 b2' bc; have lt := lt_mod h; have lt' := lt_mod h'; have cr := cross _ w1 w1' _ _ h h' (by omega) (by omega); clear h h'; rcases cr with cr | cr | cr <;> omega)
      rw [k.1, k.2]

/-- The text with the first i of the bytes from n on turned by a mask. -/
def flipL (l : List UInt8) (n m i : Nat) : List UInt8 := l.mapIdx fun j x => if n ≤ j ∧ j < n + i then x ^^^ UInt8.ofNat (m / 256 ^ (j - n)) else x
theorem flipL_length (l : List UInt8) (n m i : Nat) : (flipL l n m i).length = l.length := by simp [flipL]
theorem flipL_get (l : List UInt8) (n m i j : Nat) : (flipL l n m i)[j]? = (l[j]?).map fun x => if n ≤ j ∧ j < n + i then x ^^^ UInt8.ofNat (m / 256 ^ (j - n)) else x := by
  simp [flipL]
theorem flipL_out (l : List UInt8) (n m i j : Nat) (h : ¬ (n ≤ j ∧ j < n + i)) : (flipL l n m i)[j]? = l[j]? := by
  rw [flipL_get]
  simp only [if_neg h]
  exact congrFun Option.map_id _
theorem flipL_zero (l : List UInt8) (n m : Nat) : flipL l n m 0 = l := by
  apply List.ext_getElem?
  intro j
  exact flipL_out l n m 0 j (by omega)
theorem flipL_set (l : List UInt8) (n m i : Nat) (h : n + i < l.length) : (flipL l n m i).set (n + i) (l[n + i] ^^^ UInt8.ofNat (m / 256 ^ i)) = flipL l n m (i + 1) := by
  apply List.ext_getElem?
  intro j
  rw [List.getElem?_set, flipL_get, flipL_get, flipL_length]
  by_cases hj : n + i = j
  · subst hj
    rw [if_pos rfl, if_pos h, List.getElem?_eq_getElem h]
    simp
  · rw [if_neg hj]
    congr 1
    funext x
    by_cases h1 : n ≤ j ∧ j < n + i
    · rw [if_pos h1, if_pos (by omega)]
    · rw [if_neg h1, if_neg (by omega)]
theorem xor_eq_self (a b : UInt8) (h : a = a ^^^ b) : b = 0 := by
  have : a ^^^ a = a ^^^ (a ^^^ b) := by rw [← h]
  rw [← UInt8.xor_assoc, UInt8.xor_self, UInt8.zero_xor] at this
  exact this.symm
theorem ofNat_zero (x : Nat) (h : UInt8.ofNat x = 0) : x % 256 = 0 := by
  have := congrArg UInt8.toNat h
  simpa using this
theorem near_flip (l : List UInt8) (n m : Nat) (hl : n + 7 ≤ l.length) (h8 : 8 ≤ l.length) (hm : m % 72057594037927936 ≠ 0) (hs : openL l = true) : openL (flipL l n m 7) = false := by
  cases hf : openL (flipL l n m 7) with
  | false => rfl
  | true =>
    exfalso
    have hlen := flipL_length l n m 7
    have e1 : l = l.take n ++ ((l.drop n).take 7 ++ l.drop (n + 7)) := by
      rw [← List.drop_drop, List.take_append_drop, List.take_append_drop]
    have e2 : flipL l n m 7 = l.take n ++ (((flipL l n m 7).drop n).take 7 ++ l.drop (n + 7)) := by
      have a1 : (flipL l n m 7).take n = l.take n := by
        apply List.ext_getElem?
        intro j
        rw [List.getElem?_take, List.getElem?_take]
        split
        · exact flipL_out l n m 7 j (by omega)
        · rfl
      have a2 : (flipL l n m 7).drop (n + 7) = l.drop (n + 7) := by
        apply List.ext_getElem?
        intro j
        rw [List.getElem?_drop, List.getElem?_drop]
        exact flipL_out l n m 7 _ (by omega)
      rw [← a1, ← a2, ← List.drop_drop, List.take_append_drop, List.take_append_drop]
    have hw := near (l.take n) ((l.drop n).take 7) (((flipL l n m 7).drop n).take 7) (l.drop (n + 7)) (by simp; omega) (by simp [hlen]; omega) (by simp; omega) (e1 ▸ hs) (e2 ▸ hf)
    have each : ∀ i, i < 7 → m / 256 ^ i % 256 = 0 := by
      intro i hi
      have hg := congrArg (fun L : List UInt8 => L[i]?) hw
      simp only [List.getElem?_take, List.getElem?_drop, if_pos hi, flipL_get] at hg
      rw [List.getElem?_eq_getElem (show n + i < l.length by omega)] at hg
      simp only [Option.map_some, Option.some.injEq] at hg
      rw [if_pos (by omega), show n + i - n = i by omega] at hg
      exact ofNat_zero _ (xor_eq_self _ _ hg)
    have x0 := each 0 (by omega)
    have x1 := each 1 (by omega)
    have x2 := each 2 (by omega)
    have x3 := each 3 (by omega)
    have x4 := each 4 (by omega)
    have x5 := each 5 (by omega)
    have x6 := each 6 (by omega)
    simp only [Nat.reducePow] at x0 x1 x2 x3 x4 x5 x6
    omega
end Go.Proofs.YtaknmionaibodaaDoor
