/-
zint: of, told, Of, Text.
-/
import Derived.Test.YtljgiagdmnedpaaNatBits
import Derived.Test.YtljgiagdmnedpaaNatTextW
namespace Go.Proofs.Ytljgiagdmnedpaa.Nat_
open Go.RowKit

/-- The value v is an integer, in whatever form. -/
def Zn (w : World) (v : Value) (b : Bool) (n : Nat) : Prop := ∃ m, v = .agg #[.bool b, m] ∧ Nm w m n
theorem Zn.below {w w' : World} {v : Value} {b : Bool} {n : Nat} (h : Zn w v b n) (hb : Below w.heap.size w w') : Zn w' v b n := by
  obtain ⟨m, e, hm⟩ := h
  exact ⟨m, e, hm.below hb⟩
theorem blk_new (w : World) (t : TypeId) (cs : List Value) (n : Nat) (h : w.heap.size = n) : Blk (w.alloc (.cells cs.toArray t)) n t cs := by
  subst h
  exact Blk.new w t cs
theorem zzero_any (m : Value) (n : Nat) (w : World) (h : Nm w m n) :
    Calls Try.prog 56 #[.agg #[m]] w fun e w' => e = .returned (.bool (decide (n = 0))) ∧ Below w.heap.size w w' := by
  have h0 := h
  obtain ⟨a, len, cap, rfl, -, -, -⟩ := h.slice
  go_enter Try.func56, Try.ntmps56
  go_wp2_with fail
  have hal := (Below.refl w.heap.size w).alloc (Nat.le_refl _) (.cells #[.slice a len cap] 89)
  refine (bits_any _ n _ (h0.below hal)).mono ?_
  rintro e w1 ⟨rfl, hb⟩
  have hz := nbits_zero n
  go_wp2_with fail
  go_ret
  refine ⟨ret_bool ?_, hal.trans (hb.mono (by simp))⟩
  by_cases h1 : n = 0
  · subst h1; rfl
  · simp [h1, hz]
theorem zof_any (b : Bool) (m : Value) (n : Nat) (w : World) (h : Nm w m n) :
    Calls Try.prog 42 #[.agg #[.bool b, m]] w fun e w' => e = .returned (.agg #[m, .bool (b && decide (n ≠ 0))]) ∧ Below w.heap.size w w' := by
  have h0 := h
  obtain ⟨a, len, cap, rfl, -, -, -⟩ := h.slice
  cases b with
  | false =>
    go_enter Try.func42, Try.ntmps42
    go_wp2_with fail
    exact bodyPost_ret (v := .agg #[.slice a len cap, .bool false]) (by simp [results, Try.results42, go_sem]) rfl ⟨by simp, ((((Below.refl w.heap.size w).alloc (Nat.le_refl _) _).alloc (by simp) _).alloc (by simp; omega) _)⟩
  | true =>
    go_enter Try.func42, Try.ntmps42
    go_wp2_with fail
    obtain ⟨W, hW⟩ : ∃ W, (((w.alloc (.cells #[.bool true, .slice a len cap] 33)).alloc (.cells #[.slice none 0 0, .bool false] 91)).alloc (.cells #[.slice a len cap, .bool true] 91)) = W := ⟨_, rfl⟩
    have hal : Below w.heap.size w W := by
      rw [← hW]
      exact (((Below.refl w.heap.size w).alloc (Nat.le_refl _) _).alloc (by simp) _).alloc (by simp; omega) _
    have hsz : W.heap.size = w.heap.size + 1 + 1 + 1 := by rw [← hW]; simp
    have k1 : Blk W (w.heap.size + 1 + 1) 91 [.slice a len cap, .bool true] := by
      rw [← hW]
      exact blk_new _ _ [_, _] _ (by simp)
    have k2 : Blk W (w.heap.size + 1) 91 [.slice none 0 0, .bool false] := by
      rw [← hW]
      exact (blk_new _ _ [_, _] _ (by simp)).alloc _
    rw [hW]
    clear hW
    refine (zzero_any _ n _ (h0.below hal)).mono ?_
    rintro e w1 ⟨rfl, hb⟩
    have k1' := k1.below hb k1.lt
    have k2' := k2.below hb k2.lt
    have c10 := k1'.cell 0
    have c11 := k1'.cell 1
    have c20 := k2'.cell 0
    have c21 := k2'.cell 1
    have f10 := k1'.frozen 0 (by simp)
    have f11 := k1'.frozen 1 (by simp)
    have f20 := k2'.frozen 0 (by simp)
    have f21 := k2'.frozen 1 (by simp)
    simp only [List.getElem?_cons_zero, List.getElem?_cons_succ] at c10 c11 c20 c21
    have hbE : Below w.heap.size w w1 := hal.trans (hb.mono hal.size)
    go_wp2_with fail
    refine bodyPost_ret (v := .agg #[.slice a len cap, .bool (!decide (n = 0))]) (by simp [results, Try.results42, go_sem, c20, c21]) rfl ⟨by simp, ?_⟩
    exact ((hbE.setCell (p := ⟨w.heap.size + 1 + 1, 1, none⟩) (show w.heap.size ≤ w.heap.size + 1 + 1 by omega) _).setCell (p := ⟨w.heap.size + 1, 0, none⟩) (show w.heap.size ≤ w.heap.size + 1 by omega) _).setCell (p := ⟨w.heap.size + 1, 1, none⟩) (show w.heap.size ≤ w.heap.size + 1 by omega) _

def zeroZ : Value := .agg #[.bool false, .slice none 0 0]
set_option maxHeartbeats 1000000 in
theorem ztold_err (b : Bool) (a : Option Addr) (len cap : Nat) (k : Int) (w : World) (hk : 0 < k) (hk1 : k < 1000) :
    Calls Try.prog 26 #[.bool b, .slice a len cap, .int .i64 k] w fun e w' => e = .returned (.tuple #[zeroZ, .int .i64 k]) ∧ Below w.heap.size w w' := by
  go_enter Try.func26, Try.ntmps26
  go_wp2_with fail
  exact bodyPost_ret (v := .tuple #[zeroZ, .int .i64 k]) (by simp [results, Try.results26, go_sem, zeroZ]) rfl ⟨rfl, (Below.refl w.heap.size w).alloc (Nat.le_refl _) _⟩
set_option maxHeartbeats 1000000 in
theorem ztold_any (b : Bool) (m : Value) (n : Nat) (w : World) (h : Nm w m n) :
    Calls Try.prog 26 #[.bool b, m, .int .i64 0] w fun e w' =>
      ((n < Lim ∧ ∃ a c, e = .returned (.tuple #[.agg #[.bool (b && decide (n ≠ 0)), .slice a (nl n) c], .int .i64 0]) ∧ NN w.heap.size w' (.slice a (nl n) c) n) ∨
       (Lim ≤ n ∧ e = .returned (.tuple #[zeroZ, .int .i64 3]))) ∧ Below w.heap.size w w' := by
  have h0 := h
  obtain ⟨a, len, cap, rfl, -, -, -⟩ := h.slice
  go_enter Try.func26, Try.ntmps26
  go_wp2_with fail
  have hal := (Below.refl w.heap.size w).alloc (Nat.le_refl _) (.cells #[.bool false, .slice none 0 0] 33)
  have k1 := blk_new w 33 [.bool false, .slice none 0 0] _ rfl
  refine (norm_any _ n _ (h0.below hal)).mono ?_
  rintro e w1 ⟨ht, hb⟩
  have hbE : Below w.heap.size w w1 := hal.trans (hb.mono (by simp))
  have k1' := k1.below hb k1.lt
  have c10 := k1'.cell 0
  have c11 := k1'.cell 1
  have f10 := k1'.frozen 0 (by simp)
  have f11 := k1'.frozen 1 (by simp)
  simp only [List.getElem?_cons_zero, List.getElem?_cons_succ] at c10 c11
  rcases ht with ⟨hlt, a2, c2, rfl, hn⟩ | ⟨hge, rfl⟩
  · have hz := nl_zero n
    have hns := hn.size
    have hB2 := fun (u v : Value) => (hbE.setCell (p := ⟨w.heap.size, 0, none⟩) (Nat.le_refl _) u).setCell (p := ⟨w.heap.size, 1, none⟩) (Nat.le_refl _) v
    have hnn : ∀ (u v : Value), NN w.heap.size ((w1.setCell ⟨w.heap.size, 0, none⟩ u).setCell ⟨w.heap.size, 1, none⟩ v) (.slice a2 (nl n) c2) n := by
      intro u v
      have h1 : NN (w.heap.size + 1) w1 (.slice a2 (nl n) c2) n := by simpa using hn
      exact (nn_set (nn_set h1 w.heap.size 0 u (by omega)) w.heap.size 1 v (by omega)).ge (by omega)
    cases b with
    | false =>
      go_wp2_with fail
      exact bodyPost_ret (v := .tuple #[.agg #[.bool false, .slice a2 (nl n) c2], .int .i64 0]) (by simp [results, Try.results26, go_sem, c10, c11]) rfl ⟨.inl ⟨hlt, a2, c2, by simp, hnn _ _⟩, hB2 _ _⟩
    | true =>
      go_wp2_with fail
      refine bodyPost_ret (v := .tuple #[.agg #[.bool (decide (0 < nl n)), .slice a2 (nl n) c2], .int .i64 0]) (by simp [results, Try.results26, go_sem, c10, c11]) rfl ⟨.inl ⟨hlt, a2, c2, ?_, hnn _ _⟩, hB2 _ _⟩
      have hd : decide (0 < nl n) = decide (n ≠ 0) := by rw [decide_eq_decide]; omega
      rw [hd]
      rfl
  · go_wp2_with fail
    refine bodyPost_ret (v := .tuple #[zeroZ, .int .i64 3]) (by simp [results, Try.results26, go_sem, zeroZ, c10, c11]) rfl ⟨.inr ⟨hge, rfl⟩, ?_⟩
    exact (hbE.setCell (p := ⟨w.heap.size, 0, none⟩) (Nat.le_refl _) _).setCell (p := ⟨w.heap.size, 1, none⟩) (Nat.le_refl _) _

/-- The digits of an integer. -/
def zdecs (b : Bool) (n : Nat) : List UInt8 := if b && decide (n ≠ 0) then 45 :: decs n else decs n
set_option maxHeartbeats 1000000 in
theorem zof_small (x : Int) (w : World) (h0 : -9223372036854775808 ≤ x) (h1 : x ≤ 9223372036854775807) :
    Calls Try.prog 15 #[.int .i64 x] w fun e w' => ∃ a c, e = .returned (.agg #[.bool (decide (x < 0)), .slice a (nl x.natAbs) c]) ∧ NN w.heap.size w' (.slice a (nl x.natAbs) c) x.natAbs ∧ Below w.heap.size w w' := by
  obtain ⟨y, hy⟩ : ∃ y, y = x.natAbs := ⟨_, rfl⟩
  have hy64 : y < 18446744073709551616 := by omega
  have hyL : y < Lim := lim_small y 1 (by decide) (by simpa using hy64)
  have hw1 : x < 0 → IntKind.u64.wrap (-IntKind.u64.wrap x) = (y : Int) := fun h => by
    rw [IntKind.wrap_u64, IntKind.wrap_u64]; omega
  have hw2 : ¬ x < 0 → x = (y : Int) := fun h => by omega
  have hdec : decide (x < 0) = (decide (x < 0) && decide (y ≠ 0)) := by
    by_cases h : x < 0
    · have : y ≠ 0 := by omega
      simp [h, this]
    · simp [h]
  rw [← hy]
  have HD := Lib.hid hdec
  clear hdec hy
  have hal := (Below.refl w.heap.size w).alloc (Nat.le_refl _) (.cells #[.bool false, .slice none 0 0] 33)
  have k1 := blk_new w 33 [.bool false, .slice none 0 0] _ rfl
  by_cases hx : x < 0
  all_goals
    first
      | have hw := hw1 hx
      | have hw := hw2 hx
    clear hw1 hw2
    go_enter Try.func15, Try.ntmps15
    go_wp2_with fail
    first
      | rw [hw]
        refine (of_any y _ hy64).mono ?_
      | refine (of_any y _ hy64).mono ?_
    rintro e w1 ⟨a1, c1, rfl, hn1, hb1⟩
    go_wp2_with fail
    refine (ztold_any _ _ y _ hn1.nm).mono ?_
    rintro e w2 ⟨⟨-, a2, c2, rfl, hn2⟩ | ⟨hge, rfl⟩, hb2⟩
    · have hB2 : Below w.heap.size w w2 := hal.trans ((hb1.mono (by simp)).trans (hb2.mono (by have := hb1.size; simp at this; omega)))
      have k2 := (k1.below hb1 k1.lt).below hb2 ((k1.below hb1 k1.lt).lt)
      have k3 := blk_new w2 33 [.bool false, .slice none 0 0] _ rfl
      have c20 := k2.cell 0
      have c21 := k2.cell 1
      have f20 := k2.frozen 0 (by simp)
      have f21 := k2.frozen 1 (by simp)
      have hlt2 := k2.lt
      simp only [List.getElem?_cons_zero, List.getElem?_cons_succ] at c20 c21
      have hnn : ∀ (u v : Value) (o : Obj), NN w.heap.size (((w2.setCell ⟨w.heap.size, 0, none⟩ u).setCell ⟨w.heap.size, 1, none⟩ v).alloc o) (.slice a2 (nl y) c2) y := fun u v o =>
        (nn_alloc (nn_set (nn_set (hn2.ge (C := w.heap.size + 1) (by have := hb1.size; simp at this; omega)) w.heap.size 0 u (by omega)) w.heap.size 1 v (by omega)) o).ge (by omega)
      have hbb : ∀ (u v : Value) (o : Obj), Below w.heap.size w (((w2.setCell ⟨w.heap.size, 0, none⟩ u).setCell ⟨w.heap.size, 1, none⟩ v).alloc o) := fun u v o =>
        ((hB2.setCell (p := ⟨w.heap.size, 0, none⟩) (Nat.le_refl _) u).setCell (p := ⟨w.heap.size, 1, none⟩) (Nat.le_refl _) v).alloc (by simp [World.setCell]; omega) o
      have hcc : ∀ (u v : Value) (o : Obj), (((w2.setCell ⟨w.heap.size, 0, none⟩ u).setCell ⟨w.heap.size, 1, none⟩ v).alloc o).cell? ⟨w.heap.size, 0, none⟩ = some u ∧ (((w2.setCell ⟨w.heap.size, 0, none⟩ u).setCell ⟨w.heap.size, 1, none⟩ v).alloc o).cell? ⟨w.heap.size, 1, none⟩ = some v := fun u v o => by
        have hk := ((k2.set_ 0 u).set_ 1 v).alloc o
        exact ⟨hk.cell 0, hk.cell 1⟩
      go_wp2_with fail
      first
        | (have e1 : (!decide (y = 0)) = decide (x < 0) := by
            have := HD.out
            simp [hx] at this ⊢
            exact this
           exact bodyPost_ret (v := .agg #[.bool (!decide (y = 0)), .slice a2 (nl y) c2]) (by simp [results, Try.results15, go_sem, (hcc _ _ _).1, (hcc _ _ _).2]) rfl ⟨a2, c2, by rw [e1], hnn _ _ _, hbb _ _ _⟩)
        | (have e1 : (decide ((y : Int) < 0) && !decide (y = 0)) = decide (x < 0) := by
            have h1 : ¬ ((y : Int) < 0) := by omega
            simp [hx, h1]
           exact bodyPost_ret (v := .agg #[.bool (decide ((y : Int) < 0) && !decide (y = 0)), .slice a2 (nl y) c2]) (by simp [results, Try.results15, go_sem, (hcc _ _ _).1, (hcc _ _ _).2]) rfl ⟨a2, c2, by rw [e1], hnn _ _ _, hbb _ _ _⟩)
    · omega

theorem num_neg (w : World) (a : Option Addr) (len cap : Nat) (b : Bool) : (Instr.field 91 (.agg #[.slice a len cap, .bool b]) 1).run Try.prog w = .ok (.bool b) w := by kernel_rfl
set_option maxRecDepth 100000 in
set_option maxHeartbeats 1000000 in
theorem ztext_any (b : Bool) (m : Value) (n : Nat) (w : World) (h : Nm w m n) (hn : n < Lim) :
    Calls Try.prog 31 #[.agg #[.bool b, m]] w fun e w' => e = .returned (.string ⟨(zdecs b n).toArray⟩) ∧ Below w.heap.size w w' := by
  have h0 := h
  obtain ⟨a, len, cap, rfl, -, -, -⟩ := h.slice
  have hal := (Below.refl w.heap.size w).alloc (Nat.le_refl _) (.cells #[.bool b, .slice a len cap] 33)
  have k1 := blk_new w 33 [.bool b, .slice a len cap] _ rfl
  go_enter Try.func31, Try.ntmps31
  go_wp2_with fail
  obtain ⟨S, hS⟩ : ∃ S : ByteArray, S = ⟨(decs n).toArray⟩ := ⟨_, rfl⟩
  have htx := text_ok _ n _ (h0.below hal) hn
  rw [← hS] at htx
  refine htx.mono ?_
  rintro e w1 ⟨rfl, hb1⟩
  have hB1 : Below w.heap.size w w1 := hal.trans (hb1.mono (by simp))
  have k2 := k1.below hb1 k1.lt
  have c20 := k2.cell 0
  have c21 := k2.cell 1
  have hne : S.toList.isEmpty = false := by
    rw [ByteArray.toList_eq, hS]
    exact List.isEmpty_eq_false_iff.2 (by simpa using decs_ne n)
  simp only [List.getElem?_cons_zero, List.getElem?_cons_succ] at c20 c21
  have HS := Lib.hid hS
  clear hS htx
  go_wp2_with fail
  refine (zof_any b _ n _ (h0.below hB1)).mono ?_
  rintro e w2 ⟨rfl, hb2⟩
  have hB2 := hB1.trans (hb2.mono hB1.size)
  have hsz : S.size ≤ 40960 := by
    have h1 := dig_bound n hn
    rw [HS.out]
    show (decs n).toArray.size ≤ 40960
    rw [List.size_toArray]
    unfold decs
    by_cases h : n = 0
    · rw [if_pos h]; decide
    · rw [if_neg h, List.length_reverse]; exact h1
  have hnum := num_neg w2 a len cap
  cases hneg : (b && decide (n ≠ 0)) with
  | true =>
    have hneg2 : (b && !decide (n = 0)) = true := by simpa using hneg
    go_wp2_with fail
    go_ret
    refine ⟨?_, hB2⟩
    have : zdecs b n = 45 :: decs n := by unfold zdecs; rw [hneg]; rfl
    rw [this, HS.out]
    refine ret_str ?_
    apply ByteArray.ext
    simp
  | false =>
    have hneg2 : (b && !decide (n = 0)) = false := by
      rw [← hneg]
      congr 1
      by_cases h : n = 0 <;> simp [h]
    go_wp2_with fail
    go_ret
    refine ⟨?_, hB2⟩
    have : zdecs b n = decs n := by unfold zdecs; rw [hneg]; rfl
    rw [this, ← HS.out]
    rfl
end Go.Proofs.Ytljgiagdmnedpaa.Nat_
