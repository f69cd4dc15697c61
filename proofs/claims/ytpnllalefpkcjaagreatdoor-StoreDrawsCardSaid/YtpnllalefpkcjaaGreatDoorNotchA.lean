/-
The arithmetic of layer 1 (notch): a number's bytes, a text's bytes, and how they are read. No program in sight.
Contracts of notch's reader: its state is a text and a mark, in a block of two cells.
Contracts of notch's reader: a number, a text.
Contracts of notch's reader: a text. And what a reader keeps to.
Contracts of notch's writers.
-/
import Derived.Lib.ItoaNum
import Derived.WalkKit
import Derived.Test.YtpnllalefpkcjaaGreatDoorProg
import Derived.Test.YtpnllalefpkcjaaGreatDoorMemA
import Derived.RegionTactic
import Derived.ChangeAlike
import Derived.Test.YtpnllalefpkcjaaGreatDoorShelf
namespace Go.Proofs.YtpnllalefpkcjaaGreatDoor.Notch

/-- The lowest k digits to the base 256, the highest first. -/
def beK (n k : Nat) : List UInt8 := (List.range k).map fun i => UInt8.ofNat (n / 256 ^ (k - 1 - i))
/-- How many bytes a number needs. -/
def nb (n : Nat) : Nat := (Lib.bitLen n + 7) / 8
def encL (n : Nat) : List UInt8 := UInt8.ofNat (nb n) :: beK n (nb n)
def encAll (l : List Nat) : List UInt8 := l.flatMap encL
def encT (s : List UInt8) : List UInt8 := encL s.length ++ s
def bev (l : List UInt8) : Nat := l.foldl (fun a c => a * 256 + c.toNat) 0

theorem beK_length (n k : Nat) : (beK n k).length = k := by simp [beK]
theorem encL_length (n : Nat) : (encL n).length = nb n + 1 := by simp [encL, beK_length]
theorem bitLen_zero : Lib.bitLen 0 = 0 := by simp [Lib.bitLen, Lib.bitLenAux]
theorem nb_zero : nb 0 = 0 := by simp [nb, bitLen_zero]
theorem nb_bounds (n : Nat) (h : n < 18446744073709551616) (h0 : n ≠ 0) : 1 ≤ nb n ∧ nb n ≤ 8 ∧ 256 ^ (nb n - 1) ≤ n ∧ n < 256 ^ nb n := by
  obtain ⟨b1, b2, b3⟩ := Lib.bitLenAux_bounds 64 n h h0
  change 1 ≤ Lib.bitLen n at b1
  change 2 ^ (Lib.bitLen n - 1) ≤ n at b2
  change n < 2 ^ Lib.bitLen n at b3
  have b4 := Lib.bitLen_le n 64 (Nat.le_refl _) h
  have p : ∀ k, (256 : Nat) ^ k = 2 ^ (8 * k) := fun k => by rw [Nat.pow_mul]
  unfold nb
  refine ⟨by omega, by omega, ?_, ?_⟩
  · rw [p]
    exact Nat.le_trans (Nat.pow_le_pow_right (by decide) (by omega)) b2
  · rw [p]
    exact Nat.lt_of_lt_of_le b3 (Nat.pow_le_pow_right (by decide) (by omega))
theorem nb_le (n : Nat) (h : n < 18446744073709551616) : nb n ≤ 8 := by
  by_cases h0 : n = 0
  · rw [h0, nb_zero]; omega
  · exact (nb_bounds n h h0).2.1
theorem nb_lt (n : Nat) (h : n < 18446744073709551616) : n < 256 ^ nb n := by
  by_cases h0 : n = 0
  · rw [h0, nb_zero]; decide
  · exact (nb_bounds n h h0).2.2.2
/-- nb is the least number of bytes that serves. -/
theorem nb_eq (n k : Nat) (h : n < 18446744073709551616) (h1 : n < 256 ^ k) (h2 : k = 0 ∨ 256 ^ (k - 1) ≤ n) : nb n = k := by
  by_cases h0 : n = 0
  · subst h0
    rw [nb_zero]
    rcases h2 with rfl | h2
    · rfl
    · have : 0 < 256 ^ (k - 1) := Nat.pow_pos (by decide)
      omega
  · obtain ⟨a, b, c, d⟩ := nb_bounds n h h0
    have l1 : nb n - 1 < k := by
      rcases Nat.lt_or_ge (nb n - 1) k with h' | h'
      · exact h'
      · have := Nat.pow_le_pow_right (n := 256) (by decide) h'
        omega
    rcases h2 with rfl | h2
    · simp at h1
      omega
    · have l2 : k - 1 < nb n := by
        rcases Nat.lt_or_ge (k - 1) (nb n) with h' | h'
        · exact h'
        · have := Nat.pow_le_pow_right (n := 256) (by decide) h'
          omega
      omega

theorem beK_succ_low (n k : Nat) : beK n (k + 1) = beK (n / 256) k ++ [UInt8.ofNat n] := by
  unfold beK
  rw [List.range_succ, List.map_append]
  congr 1
  · refine List.map_congr_left fun i hi => ?_
    have : i < k := List.mem_range.1 hi
    rw [Nat.div_div_eq_div_mul, show k + 1 - 1 - i = (k - 1 - i) + 1 by omega, Nat.pow_succ, Nat.mul_comm]
  · simp
theorem beK_succ_high (n k : Nat) : beK n (k + 1) = UInt8.ofNat (n / 256 ^ k) :: beK n k := by
  unfold beK
  rw [List.range_succ_eq_map, List.map_cons, List.map_map]
  congr 1
  refine List.map_congr_left fun i _ => ?_
  simp only [Function.comp]
  rw [show k + 1 - 1 - (i + 1) = k - 1 - i by omega]

theorem bev_fold (l : List UInt8) : ∀ a : Nat, l.foldl (fun a c => a * 256 + c.toNat) a = a * 256 ^ l.length + bev l := by
  induction l with
  | nil => intro a; simp [bev]
  | cons x l ih =>
    intro a
    have h1 := ih (a * 256 + x.toNat)
    have h2 := ih (0 * 256 + x.toNat)
    have e : bev (x :: l) = (l.foldl (fun a c => a * 256 + c.toNat) (0 * 256 + x.toNat)) := rfl
    rw [List.foldl_cons, h1, e, h2, List.length_cons, Nat.pow_succ]
    simp only [Nat.add_mul, Nat.zero_mul, Nat.zero_add]
    rw [Nat.mul_comm (256 ^ l.length) 256, ← Nat.mul_assoc]
    omega
theorem bev_append (a b : List UInt8) : bev (a ++ b) = bev a * 256 ^ b.length + bev b := by
  show (a ++ b).foldl _ 0 = _
  rw [List.foldl_append, bev_fold]
  rfl
theorem bev_snoc (a : List UInt8) (c : UInt8) : bev (a ++ [c]) = bev a * 256 + c.toNat := by
  rw [bev_append]; simp [bev]
theorem bev_cons (c : UInt8) (a : List UInt8) : bev (c :: a) = c.toNat * 256 ^ a.length + bev a := by
  have := bev_append [c] a
  simpa [bev] using this
theorem bev_lt (l : List UInt8) : bev l < 256 ^ l.length := by
  induction l with
  | nil => simp [bev]
  | cons x l ih =>
    rw [bev_cons, List.length_cons, Nat.pow_succ]
    have hx : x.toNat < 256 := x.toNat_lt
    have : (x.toNat + 1) * 256 ^ l.length ≤ 256 * 256 ^ l.length := Nat.mul_le_mul_right _ (by omega)
    rw [Nat.add_mul, Nat.one_mul] at this
    rw [Nat.mul_comm (256 ^ l.length) 256]
    omega
theorem bev_beK (k : Nat) : ∀ n, n < 256 ^ k → bev (beK n k) = n := by
  induction k with
  | zero => intro n h; simp at h; subst h; rfl
  | succ k ih =>
    intro n h
    rw [beK_succ_low, bev_snoc, ih (n / 256) (by rw [Nat.pow_succ] at h; omega)]
    simp only [UInt8.toNat_ofNat']
    omega
theorem beK_bev (l : List UInt8) : beK (bev l) l.length = l := by
  obtain ⟨k, hk⟩ : ∃ k, k = l.length := ⟨_, rfl⟩
  induction k generalizing l with
  | zero =>
    have : l = [] := List.eq_nil_of_length_eq_zero hk.symm
    subst this
    rfl
  | succ k ih =>
    have hne : l ≠ [] := by rintro rfl; simp at hk
    obtain ⟨l', c, rfl⟩ : ∃ l' c, l = l' ++ [c] := ⟨l.dropLast, l.getLast hne, (List.dropLast_concat_getLast hne).symm⟩
    have hk' : k = l'.length := by simpa using hk
    rw [List.length_append, List.length_singleton, beK_succ_low, bev_snoc]
    have e : (bev l' * 256 + c.toNat) / 256 = bev l' := by have := c.toNat_lt; omega
    rw [e, ih l' hk']
    congr 2
    apply UInt8.toNat_inj.1
    simp only [UInt8.toNat_ofNat']
    have := c.toNat_lt
    omega

/-- What stands at a text's beginning as a number's bytes: the number, and what is left. -/
def readN : List UInt8 → Option (Nat × List UInt8)
  | [] => none
  | k :: r => if 8 < k.toNat ∨ r.length < k.toNat ∨ (0 < k.toNat ∧ r[0]? = some 0) then none else some (bev (r.take k.toNat), r.drop k.toNat)
theorem readN_enc (n : Nat) (h : n < 18446744073709551616) (l : List UInt8) : readN (encL n ++ l) = some (n, l) := by
  have h8 := nb_le n h
  have hk : (UInt8.ofNat (nb n)).toNat = nb n := by simp only [UInt8.toNat_ofNat']; omega
  have hlen := beK_length n (nb n)
  unfold encL
  rw [List.cons_append, readN, hk, if_neg]
  · rw [List.take_left' hlen, List.drop_left' hlen, bev_beK _ _ (nb_lt n h)]
  · rintro (h1 | h1 | ⟨h1, h2⟩)
    · omega
    · rw [List.length_append, hlen] at h1; omega
    · have hn0 : n ≠ 0 := by rintro rfl; rw [nb_zero] at h1; omega
      obtain ⟨-, -, c, d⟩ := nb_bounds n h hn0
      obtain ⟨k, hk'⟩ : ∃ k, nb n = k + 1 := ⟨nb n - 1, by omega⟩
      rw [hk', beK_succ_high, List.cons_append, List.getElem?_cons_zero] at h2
      injection h2 with h2
      have h3 := congrArg UInt8.toNat h2
      simp only [UInt8.toNat_ofNat'] at h3
      rw [hk'] at c d
      simp only [Nat.add_sub_cancel] at c
      have q1 : 1 ≤ n / 256 ^ k := (Nat.le_div_iff_mul_le (Nat.pow_pos (by decide))).2 (by omega)
      have q2 : n / 256 ^ k < 256 := (Nat.div_lt_iff_lt_mul (Nat.pow_pos (by decide))).2 (by rw [Nat.pow_succ] at d; omega)
      have h4 : (0 : UInt8).toNat = 0 := rfl
      rw [h4] at h3
      omega
/-- And there is one way to write it. -/
theorem readN_some (l : List UInt8) (n : Nat) (r : List UInt8) (h : readN l = some (n, r)) : n < 18446744073709551616 ∧ l = encL n ++ r := by
  cases l with
  | nil => simp [readN] at h
  | cons k t =>
    rw [readN] at h
    split at h
    · cases h
    · rename_i hc
      injection h with h
      have hn : n = bev (t.take k.toNat) := (congrArg Prod.fst h).symm
      have hr : r = t.drop k.toNat := (congrArg Prod.snd h).symm
      have h8 : k.toNat ≤ 8 := by omega
      have ht : k.toNat ≤ t.length := by omega
      have hlt := bev_lt (t.take k.toNat)
      have hlen : (t.take k.toNat).length = k.toNat := by simp; omega
      rw [hlen, ← hn] at hlt
      have hb : n < 18446744073709551616 := Nat.lt_of_lt_of_le hlt (Nat.pow_le_pow_right (n := 256) (by decide) h8)
      have hnb : nb n = k.toNat := by
        refine nb_eq n _ hb hlt ?_
        by_cases hz : k.toNat = 0
        · exact .inl hz
        · right
          cases t with
          | nil => simp at ht; omega
          | cons c t' =>
            obtain ⟨j, hj⟩ : ∃ j, k.toNat = j + 1 := ⟨k.toNat - 1, by omega⟩
            rw [hn, hj, List.take_succ_cons, bev_cons]
            have hlen' : (t'.take j).length = j := by simp at ht; simp; omega
            rw [hlen', Nat.add_sub_cancel]
            have hc0 : c.toNat ≠ 0 := by
              intro hz'
              apply hc
              right; right
              refine ⟨by omega, ?_⟩
              simp only [List.getElem?_cons_zero, Option.some.injEq]
              exact UInt8.toNat_inj.1 hz'
            have : 1 * 256 ^ j ≤ c.toNat * 256 ^ j := Nat.mul_le_mul_right _ (by omega)
            omega
      refine ⟨hb, ?_⟩
      unfold encL
      have e1 : UInt8.ofNat (nb n) = k := by
        apply UInt8.toNat_inj.1
        simp only [UInt8.toNat_ofNat', hnb]
        omega
      have e2 : beK n (nb n) = t.take k.toNat := by
        rw [hnb, hn]
        have h5 := beK_bev (t.take k.toNat)
        rw [hlen] at h5
        exact h5
      rw [e1, e2, hr, List.cons_append, List.take_append_drop]
end Go.Proofs.YtpnllalefpkcjaaGreatDoor.Notch

namespace Go.Proofs.YtpnllalefpkcjaaGreatDoor.Notch
open Go.RowKit

def Rdr (w : World) (g : Nat) (s : ByteArray) (bad : Bool) : Prop := Blk w g 95 [.string s, .bool bad]
def After (w : World) (g : Nat) (s : ByteArray) (bad : Bool) (w' : World) : Prop := Rdr w' g s bad ∧ w.grownBy w' (some g)
theorem Rdr.s {w : World} {g : Nat} {s : ByteArray} {bad : Bool} (h : Rdr w g s bad) : w.cell? ⟨g, 0, none⟩ = some (.string s) := h.cell 0
theorem Rdr.b {w : World} {g : Nat} {s : ByteArray} {bad : Bool} (h : Rdr w g s bad) : w.cell? ⟨g, 1, none⟩ = some (.bool bad) := h.cell 1
theorem Rdr.f0 {w : World} {g : Nat} {s : ByteArray} {bad : Bool} (h : Rdr w g s bad) : w.frozen? ⟨g, 0, none⟩ = false := h.frozen 0 (by simp)
theorem Rdr.f1 {w : World} {g : Nat} {s : ByteArray} {bad : Bool} (h : Rdr w g s bad) : w.frozen? ⟨g, 1, none⟩ = false := h.frozen 1 (by simp)
theorem Rdr.set0 {w : World} {g : Nat} {s : ByteArray} {bad : Bool} (h : Rdr w g s bad) (t : ByteArray) : Rdr (w.setCell ⟨g, 0, none⟩ (.string t)) g t bad := h.set_ 0 _
theorem Rdr.set1 {w : World} {g : Nat} {s : ByteArray} {bad : Bool} (h : Rdr w g s bad) (c : Bool) : Rdr (w.setCell ⟨g, 1, none⟩ (.bool c)) g s c := h.set_ 1 _

theorem Rdr.below {w w' : World} {g : Nat} {s : ByteArray} {bad : Bool} {B : Nat} (h : Rdr w g s bad) (hb : Below B w w') (hg : g < B) : Rdr w' g s bad := Blk.below h hb hg
theorem isbad_any (g : Nat) (s : ByteArray) (bad : Bool) (w : World) (h : Rdr w g s bad) :
    Calls Tryz.prog 48 #[.pointer (some ⟨g, 0, none⟩)] w fun e w' => e = .returned (.bool bad) ∧ w = w' := by
  have h1 := h.b
  clear h
  go_enter Tryz.func48, Tryz.ntmps48
  go_wp2
  go_ret
  exact ⟨rfl, rfl⟩
theorem isbad_nil (w : World) :
    Calls Tryz.prog 48 #[.pointer none] w fun e w' => e = .returned (.bool true) ∧ w = w' := by
  go_enter Tryz.func48, Tryz.ntmps48
  go_wp2
  go_ret
  exact ⟨rfl, rfl⟩
theorem vleft_any (g : Nat) (s : ByteArray) (w : World) (h : w.cell? ⟨g, 0, none⟩ = some (.string s)) :
    Calls Tryz.prog 52 #[.pointer (some ⟨g, 0, none⟩)] w fun e w' => e = .returned (.int .i64 (s.size : Int)) ∧ w = w' := by
  go_enter Tryz.func52, Tryz.ntmps52
  go_wp2
  go_ret
  exact ⟨rfl, rfl⟩
def leftR (s : ByteArray) (bad : Bool) : Nat := if bad then 0 else s.size
theorem left_any (g : Nat) (s : ByteArray) (bad : Bool) (w : World) (h : Rdr w g s bad) :
    Calls Tryz.prog 73 #[.pointer (some ⟨g, 0, none⟩)] w fun e w' => e = .returned (.int .i64 (leftR s bad : Int)) ∧ w = w' := by
  have h0 := h.s
  cases bad
  · have h' := Lib.hid h
    clear h
    go_enter Tryz.func73, Tryz.ntmps73
    go_wp2_with fail
    refine (isbad_any g s false w h'.out).mono ?_
    rintro e w' ⟨rfl, rfl⟩
    go_wp2_with fail
    refine (vleft_any g s w h0).mono ?_
    rintro e w' ⟨rfl, rfl⟩
    go_wp2_with fail
    go_ret
    exact ⟨rfl, rfl⟩
  · have h' := Lib.hid h
    clear h
    go_enter Tryz.func73, Tryz.ntmps73
    go_wp2_with fail
    refine (isbad_any g s true w h'.out).mono ?_
    rintro e w' ⟨rfl, rfl⟩
    go_wp2_with fail
    go_ret
    exact ⟨rfl, rfl⟩
theorem left_nil (w : World) :
    Calls Tryz.prog 73 #[.pointer none] w fun e w' => e = .returned (.int .i64 0) ∧ w = w' := by
  go_enter Tryz.func73, Tryz.ntmps73
  go_wp2_with fail
  refine (isbad_nil w).mono ?_
  rintro e w' ⟨rfl, rfl⟩
  go_wp2_with fail
  go_ret
  exact ⟨rfl, rfl⟩
theorem cut_any (g : Nat) (s : ByteArray) (n : Nat) (w : World) (hn : n ≤ s.size) (_hs : s.size ≤ maxLen) (h : Rdr w g s false) :
    Calls Tryz.prog 53 #[.pointer (some ⟨g, 0, none⟩), .int .i64 (n : Int)] w fun e w' => e = .returned (.string (s.extract 0 n)) ∧ After w g (s.extract n s.size) false w' := by
  have h0 := h.s
  have h2 := h.f0
  have hx : Hid (After w g (s.extract n s.size) false (w.setCell ⟨g, 0, none⟩ (.string (s.extract n s.size)))) := ⟨h.set0 _, grown_set w g 0 _⟩
  clear h
  unfold maxLen at _hs
  go_enter Tryz.func53, Tryz.ntmps53
  go_wp2
  go_ret
  exact ⟨rfl, hx.out⟩
theorem spoil_any (g : Nat) (s : ByteArray) (bad : Bool) (w : World) (h : Rdr w g s bad) :
    Calls Tryz.prog 49 #[.pointer (some ⟨g, 0, none⟩)] w fun e w' => e = .returned (.string ByteArray.empty) ∧ After w g ByteArray.empty true w' := by
  have h0 := h.s
  have h1 := h.b
  have h2 := h.f0
  have h3 := h.f1
  have hx : Hid (After w g ByteArray.empty true ((w.setCell ⟨g, 0, none⟩ (.string ByteArray.empty)).setCell ⟨g, 1, none⟩ (.bool true))) := ⟨(h.set0 _).set1 _, grown_trans (grown_set w g 0 _) (grown_set _ g 1 _)⟩
  clear h
  go_enter Tryz.func49, Tryz.ntmps49
  go_wp2
  go_ret
  exact ⟨rfl, hx.out⟩

/-- What Take tells, and what it leaves. -/
def takeR (s : ByteArray) (bad : Bool) (n : Int) : ByteArray × ByteArray × Bool :=
  if bad then (ByteArray.empty, s, true) else if n < 0 ∨ (s.size : Int) < n then (ByteArray.empty, ByteArray.empty, true) else (s.extract 0 n.toNat, s.extract n.toNat s.size, false)
theorem After.refl {w : World} {g : Nat} {s : ByteArray} {bad : Bool} (h : Rdr w g s bad) : After w g s bad w := ⟨h, grown_refl w _⟩
theorem After.trans {w w1 w2 : World} {g : Nat} {s t : ByteArray} {b c : Bool} (h : After w g s b w1) (k : After w1 g t c w2) : After w g t c w2 := ⟨k.1, grown_trans h.2 k.2⟩
theorem take_any (g : Nat) (s : ByteArray) (bad : Bool) (n : Int) (w : World) (hs : s.size ≤ maxLen) (h : Rdr w g s bad) :
    Calls Tryz.prog 47 #[.pointer (some ⟨g, 0, none⟩), .int .i64 n] w fun e w' => e = .returned (.string (takeR s bad n).1) ∧ After w g (takeR s bad n).2.1 (takeR s bad n).2.2 w' := by
  have H := Lib.hid h
  have h0 := h.s
  clear h
  have hs' := hs
  unfold maxLen at hs
  cases bad
  · by_cases hn : n < 0
    · have e1 : takeR s false n = (ByteArray.empty, ByteArray.empty, true) := by unfold takeR; rw [if_neg (by decide), if_pos (.inl hn)]
      rw [e1]
      have E1 := Lib.hid e1
      clear e1
      go_enter Tryz.func47, Tryz.ntmps47
      go_wp2_with fail
      refine (isbad_any g s false w H.out).mono ?_
      rintro e w' ⟨rfl, rfl⟩
      go_wp2_with fail
      refine (spoil_any g s false w H.out).mono ?_
      rintro e w' ⟨rfl, ha⟩
      go_wp2_with fail
      go_ret
      exact ⟨rfl, ha⟩
    · by_cases hb : (s.size : Int) < n
      · have e1 : takeR s false n = (ByteArray.empty, ByteArray.empty, true) := by unfold takeR; rw [if_neg (by decide), if_pos (.inr hb)]
        rw [e1]
        clear e1
        go_enter Tryz.func47, Tryz.ntmps47
        go_wp2_with fail
        refine (isbad_any g s false w H.out).mono ?_
        rintro e w' ⟨rfl, rfl⟩
        go_wp2_with fail
        refine (vleft_any g s w h0).mono ?_
        rintro e w' ⟨rfl, rfl⟩
        go_wp2_with fail
        refine (spoil_any g s false w H.out).mono ?_
        rintro e w' ⟨rfl, ha⟩
        go_wp2_with fail
        go_ret
        exact ⟨rfl, ha⟩
      · obtain ⟨k, rfl⟩ := Int.eq_ofNat_of_zero_le (show 0 ≤ n by omega)
        have e1 : takeR s false (k : Int) = (s.extract 0 k, s.extract k s.size, false) := by unfold takeR; rw [if_neg (by decide), if_neg (by omega)]; rfl
        rw [e1]
        clear e1
        have hk : k ≤ s.size := by omega
        go_enter Tryz.func47, Tryz.ntmps47
        go_wp2_with fail
        refine (isbad_any g s false w H.out).mono ?_
        rintro e w' ⟨rfl, rfl⟩
        go_wp2_with fail
        refine (vleft_any g s w h0).mono ?_
        rintro e w' ⟨rfl, rfl⟩
        go_wp2_with fail
        refine (cut_any g s k w hk hs' H.out).mono ?_
        rintro e w' ⟨rfl, ha⟩
        go_wp2_with fail
        go_ret
        exact ⟨rfl, ha⟩
  · have e1 : takeR s true n = (ByteArray.empty, s, true) := by unfold takeR; rw [if_pos rfl]
    rw [e1]
    clear e1
    go_enter Tryz.func47, Tryz.ntmps47
    go_wp2_with fail
    refine (isbad_any g s true w H.out).mono ?_
    rintro e w' ⟨rfl, rfl⟩
    go_wp2_with fail
    go_ret
    exact ⟨rfl, After.refl H.out⟩
theorem take_nil (n : Int) (w : World) :
    Calls Tryz.prog 47 #[.pointer none, .int .i64 n] w fun e w' => e = .returned (.string ByteArray.empty) ∧ w = w' := by
  go_enter Tryz.func47, Tryz.ntmps47
  go_wp2_with fail
  refine (isbad_nil w).mono ?_
  rintro e w' ⟨rfl, rfl⟩
  go_wp2_with fail
  go_ret
  exact ⟨rfl, rfl⟩
end Go.Proofs.YtpnllalefpkcjaaGreatDoor.Notch

namespace Go.Proofs.YtpnllalefpkcjaaGreatDoor.Notch
open Go.RowKit

def numR (s : ByteArray) (bad : Bool) : Nat × ByteArray × Bool :=
  if bad then (0, s, true) else match readN s.data.toList with
  | some (n, r) => (n, ⟨r.toArray⟩, false)
  | none => (0, ByteArray.empty, true)
theorem numR_true (s : ByteArray) : numR s true = (0, s, true) := rfl
theorem numR_nil (s : ByteArray) (h : s.data.toList = []) : numR s false = (0, ByteArray.empty, true) := by
  unfold numR
  rw [if_neg (by decide), h]
  rfl
theorem numR_no (s : ByteArray) (k : UInt8) (r : List UInt8) (h : s.data.toList = k :: r) (hc : 8 < k.toNat ∨ r.length < k.toNat ∨ (0 < k.toNat ∧ r[0]? = some 0)) : numR s false = (0, ByteArray.empty, true) := by
  unfold numR
  rw [if_neg (by decide), h, readN, if_pos hc]
theorem numR_yes (s : ByteArray) (k : UInt8) (r : List UInt8) (h : s.data.toList = k :: r) (hc : ¬ (8 < k.toNat ∨ r.length < k.toNat ∨ (0 < k.toNat ∧ r[0]? = some 0))) : numR s false = (bev (r.take k.toNat), ⟨(r.drop k.toNat).toArray⟩, false) := by
  unfold numR
  rw [if_neg (by decide), h, readN, if_neg hc]
theorem bev_take_lt (l : List UInt8) (j k : Nat) (h : j ≤ k) : bev (l.take j) < 256 ^ k :=
  Nat.lt_of_lt_of_le (bev_lt _) (Nat.pow_le_pow_right (by decide) (Nat.le_trans (List.length_take_le _ _) h))
theorem bev_take_succ (l : List UInt8) (j : Nat) (h : j < l.length) : bev (l.take (j + 1)) = bev (l.take j) * 256 + (l[j]'h).toNat := by
  rw [List.take_succ_eq_append_getElem h, bev_snoc]
theorem grown_of_below {a w : World} (h : Below a.heap.size a w) (row : Option Nat) : a.grownBy w row := ⟨h.os, h.tape, h.output, h.size, fun i hi _ => h.block i hi⟩
theorem takeR_true (s : ByteArray) (n : Int) : takeR s true n = (ByteArray.empty, s, true) := rfl
theorem takeR_no (s : ByteArray) (n : Int) (h : n < 0 ∨ (s.size : Int) < n) : takeR s false n = (ByteArray.empty, ByteArray.empty, true) := by unfold takeR; rw [if_neg (by decide), if_pos h]
theorem takeR_yes (s : ByteArray) (n : Nat) (h : n ≤ s.size) : takeR s false (n : Int) = (s.extract 0 n, s.extract n s.size, false) := by unfold takeR; rw [if_neg (by decide), if_neg (by omega)]; rfl
theorem size_list (s : ByteArray) : s.data.toList.length = s.size := by simp
theorem ex_take (s : ByteArray) (n : Nat) : (s.extract 0 n).data.toList = s.data.toList.take n := by simp
theorem ex_drop (s : ByteArray) (n : Nat) : (s.extract n s.size).data.toList = s.data.toList.drop n := by
  simp only [ByteArray.data_extract, Array.toList_extract, List.extract]
  rw [List.take_of_length_le (by simp)]
theorem of_toList (s : ByteArray) (l : List UInt8) (h : s.data.toList = l) : s = ⟨l.toArray⟩ := by
  subst h
  rfl

theorem num_true (g : Nat) (s : ByteArray) (w : World) (hs : s.size ≤ maxLen) (h : Rdr w g s true) :
    Calls Tryz.prog 28 #[.pointer (some ⟨g, 0, none⟩)] w fun e w' => e = .returned (.int .u64 ((numR s true).1 : Int)) ∧ After w g (numR s true).2.1 (numR s true).2.2 w' := by
  rw [numR_true]
  have c := take_any g s true 1 w hs h
  rw [takeR_true] at c
  have C := Lib.hid c
  clear c h
  go_enter Tryz.func28, Tryz.ntmps28
  go_wp2_with fail
  refine C.out.mono ?_
  rintro e w1 ⟨rfl, ha⟩
  go_wp2_with fail
  refine (isbad_any g s true w1 ha.1).mono ?_
  rintro e w' ⟨rfl, rfl⟩
  go_wp2_with fail
  go_ret
  exact ⟨rfl, ha⟩
theorem num_nil (g : Nat) (s : ByteArray) (w : World) (hs : s.size ≤ maxLen) (hz : s.data.toList = []) (h : Rdr w g s false) :
    Calls Tryz.prog 28 #[.pointer (some ⟨g, 0, none⟩)] w fun e w' => e = .returned (.int .u64 ((numR s false).1 : Int)) ∧ After w g (numR s false).2.1 (numR s false).2.2 w' := by
  rw [numR_nil s hz]
  have c := take_any g s false 1 w hs h
  rw [takeR_no s 1 (by right; rw [← size_list, hz]; decide)] at c
  have C := Lib.hid c
  clear c h hz
  go_enter Tryz.func28, Tryz.ntmps28
  go_wp2_with fail
  refine C.out.mono ?_
  rintro e w1 ⟨rfl, ha⟩
  go_wp2_with fail
  refine (isbad_any g _ true w1 ha.1).mono ?_
  rintro e w' ⟨rfl, rfl⟩
  go_wp2_with fail
  go_ret
  exact ⟨rfl, ha⟩

set_option maxHeartbeats 800000 in
theorem num_cons (g : Nat) (s : ByteArray) (w : World) (hs : s.size ≤ maxLen) (k : UInt8) (r : List UInt8) (hz : s.data.toList = k :: r) (h : Rdr w g s false) :
    Calls Tryz.prog 28 #[.pointer (some ⟨g, 0, none⟩)] w fun e w' => e = .returned (.int .u64 ((numR s false).1 : Int)) ∧ After w g (numR s false).2.1 (numR s false).2.2 w' := by
  have hsz : s.size = r.length + 1 := by rw [← size_list, hz]; rfl
  have c := take_any g s false ((1 : Nat) : Int) w hs h
  rw [takeR_yes s 1 (by omega)] at c
  have hd : (s.extract 0 1).data.toList = [k] := by rw [ex_take, hz]; rfl
  have ht : (s.extract 1 s.size).data.toList = r := by rw [ex_drop, hz]; rfl
  generalize s.extract 0 1 = hh at *
  generalize s.extract 1 s.size = tt at *
  have hhs : 0 < hh.size := by rw [← size_list, hd]; exact Nat.one_pos
  have hk : ((hh[0]'hhs).toNat : Int) = (k.toNat : Int) := by
    have : hh = ⟨[k].toArray⟩ := of_toList _ _ hd
    subst this
    rfl
  have hts : tt.size = r.length := by rw [← size_list, ht]
  have htm : tt.size ≤ maxLen := by omega
  have htm' := htm
  unfold maxLen at htm'
  obtain ⟨K, hK⟩ : ∃ K : Nat, K = k.toNat := ⟨_, rfl⟩
  have hK256 : K < 256 := by have := k.toNat_lt; omega
  rw [← hK] at hk
  have hno := numR_no s k r hz
  have hyes := numR_yes s k r hz
  rw [← hK] at hno hyes
  have C := Lib.hid c
  have HNO := Lib.hid hno
  have HYES := Lib.hid hyes
  have HT := Lib.hid ht
  have HTS := Lib.hid hts
  clear c h hz hd hno hyes ht hsz hts hK hs
  by_cases h8 : 8 < K
  · rw [HNO.out (.inl h8)]
    go_enter Tryz.func28, Tryz.ntmps28
    go_wp2_with fail
    refine C.out.mono ?_
    rintro e w1 ⟨rfl, ha⟩
    have HA := Lib.hid ha
    clear ha
    go_wp2_with fail
    refine (isbad_any g _ false w1 HA.out.1).mono ?_
    rintro e w' ⟨rfl, rfl⟩
    go_wp2_with fail
    refine (spoil_any g _ false w1 HA.out.1).mono ?_
    rintro e w2 ⟨rfl, hb⟩
    go_wp2_with fail
    go_ret
    exact ⟨rfl, HA.out.trans hb⟩
  · obtain ⟨u, t2, c2, he⟩ : ∃ u t2 c2, takeR tt false (K : Int) = (u, t2, c2) := ⟨_, _, _, rfl⟩
    have cc := fun W hW => take_any g tt false (K : Int) W htm hW
    rw [he] at cc
    have CC := Lib.hid cc
    clear cc
    have hul : u.data.toList = if K ≤ r.length then r.take K else [] := by
      by_cases hle : K ≤ r.length
      · rw [if_pos hle]
        rw [takeR_yes tt K (by rw [HTS.out]; exact hle)] at he
        have : u = tt.extract 0 K := (congrArg Prod.fst he).symm
        rw [this, ex_take, HT.out]
      · rw [if_neg hle]
        rw [takeR_no tt K (by right; rw [HTS.out]; omega)] at he
        have : u = ByteArray.empty := (congrArg Prod.fst he).symm
        rw [this]
        rfl
    have hus : u.size ≤ 8 := by
      rw [← size_list, hul]
      split
      · have := List.length_take_le K r; omega
      · simp
    -- what is told if all goes well, and if the first byte is a 0
    have hgood : (u.data.toList[0]? ≠ some 0) → numR s false = (bev u.data.toList, t2, c2) := by
      intro hne
      by_cases hle : K ≤ r.length
      · rw [if_pos hle] at hul
        rw [takeR_yes tt K (by rw [HTS.out]; exact hle)] at he
        have e2 : t2 = tt.extract K tt.size := (congrArg (fun x => x.2.1) he).symm
        have e3 : c2 = false := (congrArg (fun x => x.2.2) he).symm
        rw [HYES.out ?_, hul, e2, e3]
        · rw [of_toList (tt.extract K tt.size) (r.drop K) (by rw [ex_drop, HT.out])]
        · rintro (h1 | h1 | ⟨h1, h2⟩)
          · omega
          · omega
          · apply hne
            rw [hul, List.getElem?_take, if_pos h1]
            exact h2
      · rw [takeR_no tt K (by right; rw [HTS.out]; omega)] at he
        rw [if_neg hle] at hul
        rw [HNO.out (.inr (.inl (by omega)))]
        cases he
        rfl
    have hbad : u.data.toList[0]? = some 0 → numR s false = (0, ByteArray.empty, true) := by
      intro h0
      by_cases hle : K ≤ r.length
      · rw [if_pos hle] at hul
        rw [hul, List.getElem?_take] at h0
        split at h0
        · rename_i hpos
          exact HNO.out (.inr (.inr ⟨hpos, h0⟩))
        · cases h0
      · rw [if_neg hle] at hul
        rw [hul] at h0
        cases h0
    have HG := Lib.hid hgood
    have HB := Lib.hid hbad
    have HUL := Lib.hid (size_list u)
    clear hgood hbad he hul HNO HYES HT HTS
    have hcmp : ¬ 8 < K := h8
    go_enter Tryz.func28, Tryz.ntmps28
    go_wp2_with fail
    refine C.out.mono ?_
    rintro e w1 ⟨rfl, ha⟩
    have HA := Lib.hid ha
    clear ha
    go_wp2_with fail
    refine (isbad_any g _ false w1 HA.out.1).mono ?_
    rintro e w' ⟨rfl, rfl⟩
    go_wp2_with fail
    refine (CC.out w1 HA.out.1).mono ?_
    rintro e w2 ⟨rfl, hb⟩
    have HBB := Lib.hid (HA.out.trans hb)
    clear hb
    obtain ⟨cap, W3, hcv, hc1, hc2, hsz3, hblk, hbel⟩ := str_bytes (P := Tryz.prog) w2 9 89 5 u Tryz.underlying9 Tryz.underlying89 Tryz.underlying5 (by unfold maxLen; omega)
    have hrd3 : Rdr W3 g t2 c2 := HBB.out.1.below hbel HBB.out.1.lt
    have hg3 : w.grownBy W3 (some g) := grown_trans HBB.out.2 (grown_of_below hbel _)
    have HR3 := Lib.hid hrd3
    have HG3 := Lib.hid hg3
    have HK3 := Lib.hid hblk
    clear hblk hbel hsz3 hrd3 hg3 hc2
    go_wp2_with fail
    go_loop [5, 24] (fun n i => ∃ (j : Nat) (x : Int), j ≤ u.size ∧ i = .int .i64 (j : Int) ∧ n = .int .u64 x ∧ 0 ≤ x ∧ Hid (x = ((bev (u.data.toList.take j) : Nat) : Int)) ∧ (0 < j → Hid (u.data.toList[0]? ≠ some 0))) (fun _ i => u.size - (intOf i).toNat)
    case atStart => exact ⟨0, 0, by omega, rfl, rfl, by omega, rfl, fun h => absurd h (by omega)⟩
    case round =>
      obtain ⟨j, x, hj, rfl, rfl, hx0, HX, hnz⟩ := hrel
      by_cases hlt : j < u.size
      · have hjl : j < u.data.toList.length := by rw [HUL.out]; exact hlt
        have hcell := HK3.out.cell j
        rw [List.getElem?_append_left (by rw [bytesV_length]; exact hjl)] at hcell
        have hb1 : (bytesV u.data.toList)[j]? = some (.int .u8 ((u.data.toList[j]'hjl).toNat : Int)) := by simp [bytesV, hlt]
        rw [hb1] at hcell
        obtain ⟨c, hc⟩ : ∃ c : Int, c = ((u.data.toList[j]'hjl).toNat : Int) := ⟨_, rfl⟩
        have hc0 : 0 ≤ c := by omega
        have hc256 : c < 256 := by have := (u.data.toList[j]'hjl).toNat_lt; omega
        rw [← hc] at hcell
        have hx1 : x < 72057594037927936 := by
          rw [HX.out]
          have := bev_take_lt u.data.toList j 7 (by omega)
          omega
        have hsucc : x * 256 + c = ((bev (u.data.toList.take (j + 1)) : Nat) : Int) := by
          rw [bev_take_succ _ _ hjl, HX.out, hc]
          simp
        have ho := or8 x c hx0 hx1 hc0 hc256
        have HS := Lib.hid hsucc
        have hj0 : j = 0 → (u.data.toList[0]? = some 0 ↔ c = 0) := by
          intro hz
          subst hz
          rw [List.getElem?_eq_getElem hjl, hc]
          simp only [Option.some.injEq]
          constructor
          · intro h; rw [h]; rfl
          · intro h; exact UInt8.toNat_inj.1 (by have : (0 : UInt8).toNat = 0 := rfl; omega)
        have HJ0 := Lib.hid hj0
        clear hb1 hsucc hj0 hc
        by_cases hz : j = 0
        · by_cases hcz : c = 0
          · have hfin := HB.out ((HJ0.out hz).2 hcz)
            have HFIN := Lib.hid hfin
            have t1 : ((j : Int) == 0) = true := by rw [beq_iff_eq]; omega
            have t2' : (c == 0) = true := by rw [beq_iff_eq]; exact hcz
            clear hfin hz hcz
            go_wp2_with fail
            refine (spoil_any g _ _ W3 HR3.out).mono ?_
            rintro e w4 ⟨rfl, hd⟩
            go_wp2_with fail
            go_ret
            rw [HFIN.out]
            exact ⟨rfl, hd.1, grown_trans HG3.out hd.2⟩
          · have t1 : ((j : Int) == 0) = true := by rw [beq_iff_eq]; omega
            have t2' : (c == 0) = false := by rw [beq_eq_false_iff_ne]; exact hcz
            have hn0 : Hid (u.data.toList[0]? ≠ some 0) := fun h => hcz ((HJ0.out hz).1 h)
            clear hz hcz hnz
            go_wp2_with fail
            go_round
            case rel => exact ⟨j + 1, _, by omega, by go_num, rfl, by omega, HS.out, fun _ => hn0⟩
            case measure => simp [intOf]; omega
        · have t1 : ((j : Int) == 0) = false := by rw [beq_eq_false_iff_ne]; omega
          have hn0 := hnz (by omega)
          clear hnz
          go_wp2_with fail
          go_round
          case rel => exact ⟨j + 1, _, by omega, by go_num, rfl, by omega, HS.out, fun _ => hn0⟩
          case measure => simp [intOf]; omega
      · have hfin : numR s false = (bev u.data.toList, t2, c2) := by
          refine HG.out ?_
          by_cases hz : j = 0
          · have : u.data.toList = [] := List.eq_nil_of_length_eq_zero (by rw [HUL.out]; omega)
            rw [this]
            intro h
            cases h
          · exact hnz (by omega)
        have hxe : x = ((bev u.data.toList : Nat) : Int) := by
          rw [HX.out, List.take_of_length_le (by rw [HUL.out]; omega)]
        have HFIN := Lib.hid hfin
        have HXE := Lib.hid hxe
        clear hfin hxe hnz
        go_wp2_with fail
        go_ret
        rw [HFIN.out]
        exact ⟨ret_int HXE.out, HR3.out, HG3.out⟩
theorem num_any (g : Nat) (s : ByteArray) (bad : Bool) (w : World) (hs : s.size ≤ maxLen) (h : Rdr w g s bad) :
    Calls Tryz.prog 28 #[.pointer (some ⟨g, 0, none⟩)] w fun e w' => e = .returned (.int .u64 ((numR s bad).1 : Int)) ∧ After w g (numR s bad).2.1 (numR s bad).2.2 w' := by
  cases bad
  · cases hz : s.data.toList with
    | nil => exact num_nil g s w hs hz h
    | cons k r => exact num_cons g s w hs k r hz h
  · exact num_true g s w hs h
theorem num_none (w : World) :
    Calls Tryz.prog 28 #[.pointer none] w fun e w' => e = .returned (.int .u64 0) ∧ w = w' := by
  go_enter Tryz.func28, Tryz.ntmps28
  go_wp2_with fail
  refine (take_nil 1 w).mono ?_
  rintro e w' ⟨rfl, rfl⟩
  go_wp2_with fail
  refine (isbad_nil w).mono ?_
  rintro e w' ⟨rfl, rfl⟩
  go_wp2_with fail
  go_ret
  exact ⟨rfl, rfl⟩
end Go.Proofs.YtpnllalefpkcjaaGreatDoor.Notch

namespace Go.Proofs.YtpnllalefpkcjaaGreatDoor.Notch
open Go.RowKit

def textR (s : ByteArray) (bad : Bool) (most : Int) : ByteArray × ByteArray × Bool :=
  if (numR s bad).2.2 then (ByteArray.empty, (numR s bad).2.1, true)
  else if most < 0 ∨ most < ((numR s bad).1 : Int) ∨ (numR s bad).2.1.size < (numR s bad).1 then (ByteArray.empty, ByteArray.empty, true)
  else ((numR s bad).2.1.extract 0 (numR s bad).1, (numR s bad).2.1.extract (numR s bad).1 (numR s bad).2.1.size, false)

theorem numR_bd (s : ByteArray) (bad : Bool) : (numR s bad).1 < 18446744073709551616 ∧ (numR s bad).2.1.size ≤ s.size := by
  cases bad
  · unfold numR
    rw [if_neg (by decide)]
    cases h : readN s.data.toList with
    | none => exact ⟨by decide, Nat.zero_le _⟩
    | some x =>
      obtain ⟨n, r⟩ := x
      obtain ⟨h1, h2⟩ := readN_some _ _ _ h
      refine ⟨h1, ?_⟩
      rw [← size_list s, h2]
      show r.toArray.size ≤ _
      simp
  · exact ⟨by simp [numR], by simp [numR]⟩

set_option maxHeartbeats 400000 in
theorem text_any (g : Nat) (s : ByteArray) (bad : Bool) (most : Int) (w : World) (hs : s.size ≤ maxLen) (m0 : -9223372036854775808 ≤ most) (m1 : most ≤ 9223372036854775807) (h : Rdr w g s bad) :
    Calls Tryz.prog 32 #[.pointer (some ⟨g, 0, none⟩), .int .i64 most] w fun e w' => e = .returned (.string (textR s bad most).1) ∧ After w g (textR s bad most).2.1 (textR s bad most).2.2 w' := by
  have c := num_any g s bad w hs h
  obtain ⟨hn, hts⟩ := numR_bd s bad
  have hspec : textR s bad most = if (numR s bad).2.2 then (ByteArray.empty, (numR s bad).2.1, true)
    else if most < 0 ∨ most < ((numR s bad).1 : Int) ∨ (numR s bad).2.1.size < (numR s bad).1 then (ByteArray.empty, ByteArray.empty, true)
    else ((numR s bad).2.1.extract 0 (numR s bad).1, (numR s bad).2.1.extract (numR s bad).1 (numR s bad).2.1.size, false) := rfl
  generalize numR s bad = q at *
  obtain ⟨n, t, b⟩ := q
  simp only at c hn hts hspec
  have htm : t.size ≤ maxLen := by omega
  have htm' := htm
  unfold maxLen at htm'
  obtain ⟨N, hN⟩ : ∃ N : Int, N = (n : Int) := ⟨_, rfl⟩
  have hN0 : 0 ≤ N := by omega
  have hN1 : N < 18446744073709551616 := by omega
  rw [← hN] at c
  have C := Lib.hid c
  have HS := Lib.hid hspec
  have HN := Lib.hid hN
  clear c hspec h hs hN hn hts
  cases b
  · by_cases hneg : most < 0
    · have d1 : decide (most < 0) = true := by simpa using hneg
      go_enter Tryz.func32, Tryz.ntmps32
      go_wp2_with fail
      refine C.out.mono ?_
      rintro e w1 ⟨rfl, ha⟩
      have HA := Lib.hid ha
      clear ha
      go_wp2_with fail
      refine (isbad_any g _ false w1 HA.out.1).mono ?_
      rintro e w' ⟨rfl, rfl⟩
      go_wp2_with fail
      refine (spoil_any g _ false w1 HA.out.1).mono ?_
      rintro e w2 ⟨rfl, hb⟩
      go_wp2_with fail
      go_ret
      rw [HS.out, if_neg (by decide), if_pos (.inl hneg)]
      exact ⟨rfl, HA.out.trans hb⟩
    · have d1 : decide (most < 0) = false := by simpa using hneg
      by_cases hbig : most < N
      · have d2 : decide (most < N) = true := by simpa using hbig
        go_enter Tryz.func32, Tryz.ntmps32
        go_wp2_with fail
        refine C.out.mono ?_
        rintro e w1 ⟨rfl, ha⟩
        have HA := Lib.hid ha
        clear ha
        go_wp2_with fail
        refine (isbad_any g _ false w1 HA.out.1).mono ?_
        rintro e w' ⟨rfl, rfl⟩
        go_wp2_with fail
        refine (spoil_any g _ false w1 HA.out.1).mono ?_
        rintro e w2 ⟨rfl, hb⟩
        go_wp2_with fail
        go_ret
        rw [HS.out, if_neg (by decide), if_pos (.inr (.inl (by rw [← HN.out]; exact hbig)))]
        exact ⟨rfl, HA.out.trans hb⟩
      · have d2 : decide (most < N) = false := by simpa using hbig
        by_cases hlong : (t.size : Int) < N
        · have d3 : decide ((t.size : Int) < N) = true := by simpa using hlong
          go_enter Tryz.func32, Tryz.ntmps32
          go_wp2_with fail
          refine C.out.mono ?_
          rintro e w1 ⟨rfl, ha⟩
          have HA := Lib.hid ha
          clear ha
          go_wp2_with fail
          refine (isbad_any g _ false w1 HA.out.1).mono ?_
          rintro e w' ⟨rfl, rfl⟩
          go_wp2_with fail
          refine (vleft_any g _ w1 HA.out.1.s).mono ?_
          rintro e w' ⟨rfl, rfl⟩
          go_wp2_with fail
          refine (spoil_any g _ false w1 HA.out.1).mono ?_
          rintro e w2 ⟨rfl, hb⟩
          go_wp2_with fail
          go_ret
          rw [HS.out, if_neg (by decide), if_pos (.inr (.inr (by have := HN.out; omega)))]
          exact ⟨rfl, HA.out.trans hb⟩
        · have d3 : decide ((t.size : Int) < N) = false := by simpa using hlong
          have hle : n ≤ t.size := by have := HN.out; omega
          have cc := fun W hW => cut_any g t n W hle htm hW
          rw [← HN.out] at cc
          have CC := Lib.hid cc
          clear cc
          go_enter Tryz.func32, Tryz.ntmps32
          go_wp2_with fail
          refine C.out.mono ?_
          rintro e w1 ⟨rfl, ha⟩
          have HA := Lib.hid ha
          clear ha
          go_wp2_with fail
          refine (isbad_any g _ false w1 HA.out.1).mono ?_
          rintro e w' ⟨rfl, rfl⟩
          go_wp2_with fail
          refine (vleft_any g _ w1 HA.out.1.s).mono ?_
          rintro e w' ⟨rfl, rfl⟩
          go_wp2_with fail
          refine (CC.out w1 HA.out.1).mono ?_
          rintro e w2 ⟨rfl, hb⟩
          go_wp2_with fail
          go_ret
          rw [HS.out, if_neg (by decide), if_neg (by have := HN.out; omega)]
          exact ⟨rfl, HA.out.trans hb⟩
  · go_enter Tryz.func32, Tryz.ntmps32
    go_wp2_with fail
    refine C.out.mono ?_
    rintro e w1 ⟨rfl, ha⟩
    have HA := Lib.hid ha
    clear ha
    go_wp2_with fail
    refine (isbad_any g _ true w1 HA.out.1).mono ?_
    rintro e w' ⟨rfl, rfl⟩
    go_wp2_with fail
    go_ret
    rw [HS.out, if_pos trivial]
    exact ⟨rfl, HA.out⟩
theorem text_none (most : Int) (w : World) :
    Calls Tryz.prog 32 #[.pointer none, .int .i64 most] w fun e w' => e = .returned (.string ByteArray.empty) ∧ w = w' := by
  go_enter Tryz.func32, Tryz.ntmps32
  go_wp2_with fail
  refine (num_none w).mono ?_
  rintro e w' ⟨rfl, rfl⟩
  go_wp2_with fail
  refine (isbad_nil w).mono ?_
  rintro e w' ⟨rfl, rfl⟩
  go_wp2_with fail
  go_ret
  exact ⟨rfl, rfl⟩
theorem open_any (s : ByteArray) (w : World) :
    Calls Tryz.prog 27 #[.string s] w fun e w' => e = .returned (.pointer (some ⟨w.heap.size, 0, none⟩)) ∧ w' = w.alloc (.cells #[.string s, .bool false] 95) := by
  go_enter Tryz.func27, Tryz.ntmps27
  go_wp2
  go_ret
  exact ⟨rfl, rfl⟩
theorem open_new (s : ByteArray) (w : World) :
    Calls Tryz.prog 27 #[.string s] w fun e w' => e = .returned (.pointer (some ⟨w.heap.size, 0, none⟩)) ∧ Rdr w' w.heap.size s false ∧ w.heap.size < w'.heap.size ∧ Below w.heap.size w w' :=
  (open_any s w).mono fun _ _ ⟨h1, h2⟩ => ⟨h1, by rw [h2]; exact Blk.new w _ _, by rw [h2]; simp, by rw [h2]; exact (Below.refl _ _).alloc (Nat.le_refl _) _⟩
end Go.Proofs.YtpnllalefpkcjaaGreatDoor.Notch

namespace Go.Proofs.YtpnllalefpkcjaaGreatDoor.Notch
open Go.RowKit

theorem info_u8 : (Tryz.prog.info? 5).map (fun i => (i.zero, i.size, i.bytes)) = some (some (.int .u8 0), 1, 1) := by kernel_rfl

theorem long_any (n : Int) (w : World) (h0 : 0 ≤ n) (h1 : n < 18446744073709551616) :
    Calls Tryz.prog 44 #[.int .u64 n] w fun e w' => e = .returned (.int .i64 ((nb n.toNat : Int) + 1)) ∧ w = w' := by
  have hb := Lib.bitLen_le n.toNat 64 (Nat.le_refl _) (by omega)
  have he : (1 : Int) + ((Lib.bitLen n.toNat : Int) + 7) / 8 = (nb n.toNat : Int) + 1 := by unfold nb; omega
  have HE := Lib.hid he
  clear he
  go_enter Tryz.func44, Tryz.ntmps44
  go_wp2_with fail
  refine (Tryz.bits_Len64 n w h0 (by omega)).mono ?_
  rintro e w' ⟨rfl, rfl⟩
  go_wp2_with fail
  go_ret
  exact ⟨ret_int HE.out, rfl⟩

def encB (l : List Nat) : ByteArray := ⟨(encAll l).toArray⟩
theorem encAll_snoc (l : List Nat) (n : Nat) : encAll (l ++ [n]) = encAll l ++ encL n := by simp [encAll]
theorem encAll_take (zs : List Int) (j : Nat) (z : Int) (h : zs[j]? = some z) : encAll ((zs.take (j + 1)).map Int.toNat) = encAll ((zs.take j).map Int.toNat) ++ encL z.toNat := by
  rw [List.take_add_one, h, List.map_append, ← encAll_snoc]
  rfl
theorem beK_take (n k m : Nat) (h : m < k) : (beK n k).take (m + 1) = (beK n k).take m ++ [UInt8.ofNat (n / 256 ^ (k - 1 - m))] := by
  rw [List.take_add_one]
  congr 1
  have : (beK n k)[m]? = some (UInt8.ofNat (n / 256 ^ (k - 1 - m))) := by simp [beK, h]
  rw [this]
  rfl
theorem bytesV_snoc (l : List UInt8) (b : UInt8) : bytesV (l ++ [b]) = bytesV l ++ [.int .u8 (b.toNat : Int)] := by simp [bytesV]
theorem put_val (n K : Nat) : Value.int .u8 ((n : Int) / 2 ^ (8 * K) % 256) = .int .u8 ((UInt8.ofNat (n / 256 ^ K)).toNat : Int) := by
  rw [show (256 : Nat) ^ K = 2 ^ (8 * K) by rw [Nat.pow_mul]]
  simp

set_option maxHeartbeats 1000000 in
theorem nums_any (a : Option Addr) (len cap : Nat) (zs : List Int) (w : World) (hrow : IsInts .u64 w a len cap zs) (hlen : len ≤ 1000000) :
    Calls Tryz.prog 20 #[.slice a len cap] w fun e w' => e = .returned (.string (encB (zs.map Int.toNat))) ∧ Below w.heap.size w w' := by
  obtain ⟨⟨hl, hlc, hcm, hcells⟩, hwf⟩ := hrow
  unfold maxLen at hcm
  have HC := Lib.hid hcells
  have HL := Lib.hid (show zs.length = len by simpa using hl)
  have HW := Lib.hid hwf
  clear hl hcells hwf
  go_enter Tryz.func20, Tryz.ntmps20
  go_wp2_with fail
  go_loopw [3, 9] (fun v i wr => ∃ (j L : Nat), j ≤ len ∧ i = .int .i64 (j : Int) ∧ L ≤ 9 * j ∧ Hid (wr.ownsRow w.heap.size 5 1 v L (bytesV (encAll ((zs.take j).map Int.toNat)))) ∧ Below w.heap.size w wr) (fun _ i _ => len - (intOf i).toNat)
  case atStart => exact ⟨0, 0, by omega, rfl, by omega, World.ownsRow_nil _ _ _ _, Below.refl _ _⟩
  case round =>
    obtain ⟨j, L, hj, rfl, hL, hown, hbel⟩ := hrel
    by_cases hlt : j < len
    · obtain ⟨b, off, ha, hbw, hcs⟩ := HC.out (by omega)
      subst ha
      obtain ⟨z, hz⟩ : ∃ z, zs[j]? = some z := ⟨zs[j]'(by rw [HL.out]; exact hlt), List.getElem?_eq_getElem _⟩
      have hcell := (hbel.cell (p := ⟨b, off + j, none⟩) hbw).trans (hcs j (.int .u64 z) (by simp [hz]))
      have hzb := bounds_u64 (HW.out z (List.mem_of_getElem? hz))
      obtain ⟨z0, z1⟩ := hzb
      have hsucc := encAll_take zs j z hz
      obtain ⟨N, hN⟩ : ∃ N : Nat, N = z.toNat := ⟨_, rfl⟩
      have hzN : z = (N : Int) := by omega
      rw [← hN] at hsucc
      have h8 := nb_le N (by omega)
      obtain ⟨K, hK⟩ : ∃ K : Nat, K = nb N := ⟨_, rfl⟩
      rw [← hK] at h8
      have cl := fun W => long_any z W z0 (by omega)
      rw [← hN, ← hK] at cl
      have CL := Lib.hid cl
      have HZN := Lib.hid hzN
      have HK := Lib.hid hK
      have HSU := Lib.hid hsucc
      have hsz := hbel.size
      clear cl hzN hK hsucc hcs hz hN
      go_wp2_with fail
      refine (CL.out wr).mono ?_
      rintro e w' ⟨rfl, rfl⟩
      have hk256 : (K : Int) % 256 = K := by omega
      have hkb : Hid (bytesV (encAll ((zs.take j).map Int.toNat)) ++ [Value.int .u8 (K : Int)] = bytesV (encAll ((zs.take j).map Int.toNat) ++ [UInt8.ofNat K])) := by
        show _ = _
        rw [bytesV_snoc]
        congr 3
        simp
        omega
      go_wp2_with (at_builtin; refine wpList_append_own1 rfl (.tmp 16) (.tmp 19) _ rfl w.heap.size 5 _ 1 Tryz.underlying89 info_u8 rfl _ L _ rfl wr (.int .u8 (K : Int)) rfl hown.out rfl rfl (by unfold maxLen; omega) (by omega) hsz ?_; intro v1 w1 hown1 hb1; have HO1 := Lib.hid hown1; clear hown1)
      have hbel1 := hbel.trans hb1
      rw [hkb.out] at HO1
      clear hkb hk256
      go_loopw [3, 6] (fun x i wr => ∃ (m K' : Nat), m + K' = K ∧ i = .int .i64 (K' : Int) ∧ Hid (wr.ownsRow w.heap.size 5 1 x (L + 1 + m) (bytesV (encAll ((zs.take j).map Int.toNat) ++ [UInt8.ofNat K] ++ (beK N K).take m))) ∧ Below w.heap.size w wr) (fun _ i _ => (intOf i).toNat)
      case atStart => exact ⟨0, K, by omega, rfl, by simpa using HO1, hbel1⟩
      case round =>
        obtain ⟨m, K', hmk, rfl, hown2, hbel2⟩ := hrel
        by_cases hk0 : 0 < K'
        · obtain ⟨K2, rfl⟩ : ∃ K2, K' = K2 + 1 := ⟨K' - 1, by omega⟩
          have hnew : Hid (bytesV (encAll ((zs.take j).map Int.toNat) ++ [UInt8.ofNat K] ++ (beK N K).take m) ++ [Value.int .u8 (z / 2 ^ (8 * K2) % 256)] = bytesV (encAll ((zs.take j).map Int.toNat) ++ [UInt8.ofNat K] ++ (beK N K).take (m + 1))) := by
            show _ = _
            rw [beK_take N K m (by omega), ← List.append_assoc _ _ [_], bytesV_snoc, HZN.out, show K - 1 - m = K2 by omega, put_val]
          have hsz2 : w.heap.size ≤ wr.heap.size := hbel2.size
          have hK2 : ((K2 + 1 : Nat) : Int) - 1 = (K2 : Int) := by omega
          go_wp2_with (at_builtin; refine wpList_append_own1 rfl (.tmp 25) (.tmp 31) _ rfl w.heap.size 5 _ 1 Tryz.underlying89 info_u8 rfl _ (L + 1 + m) _ rfl wr (.int .u8 (z / 2 ^ (8 * K2) % 256)) rfl hown2.out rfl rfl (by unfold maxLen; omega) (by omega) hsz2 ?_; intro v2 w2 hown3 hb2; have HO2 := Lib.hid hown3; clear hown3)
          go_roundw
          case rel => exact ⟨m + 1, K2, by omega, by go_num, by rw [← hnew.out]; exact HO2.out, hbel2.trans hb2⟩
          case measure => simp [intOf]
        · obtain rfl : K' = 0 := by omega
          have hmK : m = K := by omega
          have hend : Hid (bytesV (encAll ((zs.take j).map Int.toNat) ++ [UInt8.ofNat K] ++ (beK N K).take m) = bytesV (encAll ((zs.take (j + 1)).map Int.toNat))) := by
            show _ = _
            have ht : (beK N K).take K = beK N K := List.take_of_length_le (by rw [beK_length]; exact Nat.le_refl _)
            rw [HSU.out, hmK, ht, List.append_assoc]
            unfold encL
            rw [← HK.out]
            rfl
          rw [hend.out] at hown2
          clear hend
          go_wp2_with fail
          go_roundw
          case rel => exact ⟨j + 1, L + 1 + m, by omega, by go_num, by omega, hown2, hbel2⟩
          case measure => simp [intOf]; omega
    · have hje : Hid (zs.take j = zs) := List.take_of_length_le (by rw [HL.out]; omega)
      have hst := run_str_of_own (P := Tryz.prog) (w := wr) 89 9 5 Tryz.underlying89 Tryz.underlying5 Tryz.underlying9 w.heap.size L _ _ hown.out
      rw [hje.out] at hst
      change _ = Result.ok (Value.string (encB (zs.map Int.toNat))) wr at hst
      clear hown
      go_wp2_with fail
      go_ret
      exact ⟨rfl, hbel⟩

/-- One number, in a slice that has just been laid. -/
theorem isInts_one (w : World) (n : Int) (h0 : 0 ≤ n) (h1 : n < 18446744073709551616) (e : TypeId) : IsInts .u64 (w.alloc (.cells #[.int .u64 n] e)) (some ⟨w.heap.size, 0, none⟩) 1 1 [n] := by
  refine ⟨⟨rfl, Nat.le_refl _, by decide, fun _ => ⟨w.heap.size, 0, rfl, by simp, fun j u hu => ?_⟩⟩, fun m hm => ?_⟩
  · rw [Nat.zero_add]
    have := (Blk.new w e [.int .u64 n]).cell j
    rw [this]
    exact hu
  · simp at hm
    subst hm
    exact WalkArith.wf_u64 (by omega)
def textB (s : ByteArray) : ByteArray := ⟨(encT s.data.toList).toArray⟩
theorem textB_eq (s : ByteArray) : encB [s.size] ++ s = textB s := by
  apply ByteArray.ext
  simp [encB, textB, encT, encAll]
theorem encB_size (n : Nat) (h : n < 18446744073709551616) : (encB [n]).size ≤ 9 := by
  show (encAll [n]).toArray.size ≤ 9
  have := nb_le n h
  simp [encAll, encL_length]
  omega
theorem put_any (n : Int) (w : World) (h0 : 0 ≤ n) (h1 : n < 18446744073709551616) (e : TypeId) :
    Calls Tryz.prog 20 #[.slice (some ⟨w.heap.size, 0, none⟩) 1 1] (w.alloc (.cells #[.int .u64 n] e)) fun r w' => r = .returned (.string (encB [n.toNat])) ∧ Below w.heap.size w w' :=
  (nums_any _ 1 1 [n] _ (isInts_one w n h0 h1 e) (by decide)).mono fun _ _ ⟨h2, h3⟩ => ⟨h2, ((Below.refl _ _).alloc (Nat.le_refl _) _).trans (h3.mono (by simp))⟩
theorem putText_any (s : ByteArray) (w : World) (hs : s.size ≤ 1000000) :
    Calls Tryz.prog 25 #[.string s] w fun e w' => e = .returned (.string (textB s)) ∧ Below w.heap.size w w' := by
  have he := textB_eq s
  have hz := encB_size s.size (by omega)
  have c := put_any (s.size : Int) w (by omega) (by omega) 26
  rw [Int.toNat_natCast] at c
  generalize encB [s.size] = q at *
  have C := Lib.hid c
  clear c
  go_enter Tryz.func25, Tryz.ntmps25
  go_wp2_with fail
  refine C.out.mono ?_
  rintro e w1 ⟨rfl, hb⟩
  go_wp2_with fail
  go_ret
  exact ⟨rfl, hb⟩
end Go.Proofs.YtpnllalefpkcjaaGreatDoor.Notch
