/-
Contracts of the reference's reader.
-/
import Derived.Test.YtaknmionaibodaaDoorNotchRef
import Derived.Test.YtaknmionaibodaaDoorNotchRead3
namespace Go.Proofs.YtaknmionaibodaaDoor.Notch
open Go.RowKit

def RR (w : World) (g : Nat) (s : ByteArray) (bad : Bool) : Prop := Blk w g 72 [.string s, .bool bad]
def AfterR (w : World) (g : Nat) (s : ByteArray) (bad : Bool) (w' : World) : Prop := RR w' g s bad ∧ w.grownBy w' (some g)
theorem RR.s {w : World} {g : Nat} {s : ByteArray} {bad : Bool} (h : RR w g s bad) : w.cell? ⟨g, 0, none⟩ = some (.string s) := h.cell 0
theorem RR.b {w : World} {g : Nat} {s : ByteArray} {bad : Bool} (h : RR w g s bad) : w.cell? ⟨g, 1, none⟩ = some (.bool bad) := h.cell 1
theorem RR.f0 {w : World} {g : Nat} {s : ByteArray} {bad : Bool} (h : RR w g s bad) : w.frozen? ⟨g, 0, none⟩ = false := h.frozen 0 (by simp)
theorem RR.f1 {w : World} {g : Nat} {s : ByteArray} {bad : Bool} (h : RR w g s bad) : w.frozen? ⟨g, 1, none⟩ = false := h.frozen 1 (by simp)
theorem RR.set0 {w : World} {g : Nat} {s : ByteArray} {bad : Bool} (h : RR w g s bad) (t : ByteArray) : RR (w.setCell ⟨g, 0, none⟩ (.string t)) g t bad := h.set_ 0 _
theorem RR.set1 {w : World} {g : Nat} {s : ByteArray} {bad : Bool} (h : RR w g s bad) (c : Bool) : RR (w.setCell ⟨g, 1, none⟩ (.bool c)) g s c := h.set_ 1 _
theorem RR.below {w w' : World} {g : Nat} {s : ByteArray} {bad : Bool} {B : Nat} (h : RR w g s bad) (hb : Below B w w') (hg : g < B) : RR w' g s bad := Blk.below h hb hg
theorem AfterR.trans {w w1 w2 : World} {g : Nat} {s t : ByteArray} {b c : Bool} (h : AfterR w g s b w1) (k : AfterR w1 g t c w2) : AfterR w g t c w2 := ⟨k.1, grown_trans h.2 k.2⟩

theorem rspoil_any (g : Nat) (s : ByteArray) (bad : Bool) (w : World) (h : RR w g s bad) :
    Calls Tryd.prog 48 #[.pointer (some ⟨g, 0, none⟩)] w fun e w' => e = .returned (.tuple #[]) ∧ AfterR w g ByteArray.empty true w' := by
  have h0 := h.s
  have h1 := h.b
  have h2 := h.f0
  have h3 := h.f1
  have hx : Hid (AfterR w g ByteArray.empty true ((w.setCell ⟨g, 0, none⟩ (.string ByteArray.empty)).setCell ⟨g, 1, none⟩ (.bool true))) := ⟨(h.set0 _).set1 _, grown_trans (grown_set w g 0 _) (grown_set _ g 1 _)⟩
  clear h
  go_enter Tryd.func48, Tryd.ntmps48
  go_wp2
  go_end0
  exact ⟨rfl, hx.out⟩
def pre (s t : ByteArray) : Bool := s.data.toList.take t.size == t.data.toList
theorem begins_any (s t : ByteArray) (w : World) (_hs : s.size ≤ maxLen) (_ht : t.size ≤ maxLen) :
    Calls Tryd.prog 49 #[.string s, .string t] w fun e w' => e = .returned (.bool (pre s t)) ∧ w = w' := by
  unfold maxLen at _hs _ht
  have hpre : pre s t = if t.size ≤ s.size then ((s.extract 0 t.size).toList == t.toList) else false := by
    by_cases h : t.size ≤ s.size
    · rw [if_pos h, ByteArray.toList_eq, ByteArray.toList_eq, ex_take]
      rfl
    · rw [if_neg h]
      unfold pre
      rw [beq_eq_false_iff_ne]
      intro he
      have := congrArg List.length he
      rw [List.length_take, size_list, size_list] at this
      omega
  have HP := Lib.hid hpre
  clear hpre
  by_cases h : t.size ≤ s.size
  · have hx := HP.out
    rw [if_pos h] at hx
    have HX := Lib.hid hx
    clear hx HP
    go_enter Tryd.func49, Tryd.ntmps49
    go_wp2
    go_ret
    exact ⟨ret_bool HX.out.symm, rfl⟩
  · have hx := HP.out
    rw [if_neg h] at hx
    have HX := Lib.hid hx
    clear hx HP
    go_enter Tryd.func49, Tryd.ntmps49
    go_wp2
    go_ret
    exact ⟨ret_bool HX.out.symm, rfl⟩
theorem numB_size (n : Nat) : (numB n).size = nb n + 1 := by
  show (encL n).toArray.size = _
  rw [List.size_toArray, encL_length]
theorem pre_iff (s : ByteArray) (n : Nat) : pre s (numB n) = true ↔ ∃ r, s.data.toList = encL n ++ r := by
  have d : (numB n).data.toList = encL n := by simp [numB]
  unfold pre
  rw [beq_iff_eq, numB_size, d, ← encL_length]
  constructor
  · intro h
    exact ⟨s.data.toList.drop (encL n).length, by conv => lhs; rw [← List.take_append_drop (encL n).length s.data.toList, h]⟩
  · rintro ⟨r, h⟩
    rw [h, List.take_left]
/-- The number whose bytes would stand there, had it j bytes. -/
def numAt (s : ByteArray) (j : Nat) : Nat := bev ((s.data.toList.drop 1).take j)
theorem numAt_enc (s : ByteArray) (n : Nat) (r : List UInt8) (hn : n < 18446744073709551616) (h : s.data.toList = encL n ++ r) : numAt s (nb n) = n := by
  unfold numAt
  rw [h]
  show bev (List.take (nb n) (beK n (nb n) ++ r)) = n
  rw [List.take_left' (beK_length _ _), bev_beK _ _ (nb_lt n hn)]
theorem numAt_succ (s : ByteArray) (j : Nat) (h : j + 1 < s.size) : numAt s (j + 1) = numAt s j * 256 + (s[j + 1]'h).toNat := by
  unfold numAt
  have hl : j < (s.data.toList.drop 1).length := by rw [List.length_drop, size_list]; omega
  rw [bev_take_succ _ _ hl]
  congr 2
  rw [List.getElem_drop]
  simp only [Nat.add_comm 1 j]
  rfl
theorem head_enc (s : ByteArray) (n : Nat) (r : List UInt8) (hn : n < 18446744073709551616) (h : s.data.toList = encL n ++ r) (hp : 0 < s.size) : (s[0]'hp).toNat = nb n := by
  have h8 := nb_le n hn
  have : s.data.toList[0]? = some (UInt8.ofNat (nb n)) := by rw [h]; rfl
  rw [List.getElem?_eq_getElem (by rw [size_list]; exact hp)] at this
  injection this with this
  have e : (s[0]'hp) = UInt8.ofNat (nb n) := this
  rw [e]
  simp only [UInt8.toNat_ofNat']
  omega
theorem numR_some (s : ByteArray) (n : Nat) (r : List UInt8) (hn : n < 18446744073709551616) (h : s.data.toList = encL n ++ r) : numR s false = (n, ⟨r.toArray⟩, false) := by
  unfold numR
  rw [if_neg (by decide), h, readN_enc n hn r]
theorem numR_none (s : ByteArray) (h : ∀ n r, n < 18446744073709551616 → s.data.toList ≠ encL n ++ r) : numR s false = (0, ByteArray.empty, true) := by
  unfold numR
  rw [if_neg (by decide)]
  cases hr : readN s.data.toList with
  | none => rfl
  | some x =>
    obtain ⟨n, r⟩ := x
    obtain ⟨h1, h2⟩ := readN_some _ _ _ hr
    exact absurd h2 (h n r h1)
theorem numR_same (s : ByteArray) (bad : Bool) (h : bad = true → s = ByteArray.empty) : numR s bad = if bad then (0, ByteArray.empty, true) else numR s false := by
  cases bad
  · rfl
  · rw [h rfl]; rfl

set_option maxHeartbeats 8000000 in
theorem rnum_any (g : Nat) (s : ByteArray) (bad : Bool) (w : World) (hs : s.size ≤ maxLen) (hbs : bad = true → s = ByteArray.empty) (h : RR w g s bad) :
    Calls Tryd.prog 31 #[.pointer (some ⟨g, 0, none⟩)] w fun e w' => e = .returned (.int .u64 ((numR s bad).1 : Int)) ∧ AfterR w g (numR s bad).2.1 (numR s bad).2.2 w' := by
  have H := Lib.hid h
  have hsm := hs
  unfold maxLen at hs
  clear h
  have hnone : (∀ n r, n < 18446744073709551616 → s.data.toList ≠ encL n ++ r) → numR s bad = (0, ByteArray.empty, true) := by
    intro hh
    rw [numR_same s bad hbs]
    cases bad
    · exact numR_none s hh
    · rfl
  have hsome : ∀ n r, n < 18446744073709551616 → s.data.toList = encL n ++ r → numR s bad = (n, ⟨r.toArray⟩, bad) := by
    intro n r hn hh
    cases bad
    · exact numR_some s n r hn hh
    · exfalso
      rw [hbs rfl] at hh
      have := congrArg List.length hh
      rw [List.length_append, encL_length] at this
      have h0 : ByteArray.empty.data.toList.length = 0 := rfl
      omega
  have HNONE := Lib.hid hnone
  have HSOME := Lib.hid hsome
  clear hnone hsome hbs
  go_enter Tryd.func31, Tryd.ntmps31
  go_wp2_with fail
  go_loopw [3, 4] (fun n i wr => ∃ (j : Nat) (x : Int), j ≤ 9 ∧ j ≤ s.size + 1 ∧ i = .int .i64 (j : Int) ∧ n = .int .u64 x ∧ 0 ≤ x ∧ Hid (x = ((numAt s (j - 1) : Nat) : Int)) ∧ Hid (RR wr g s bad) ∧ Hid (∀ n r, n < 18446744073709551616 → s.data.toList = encL n ++ r → j ≤ nb n) ∧ w.heap.size ≤ wr.heap.size ∧ Hid (w.grownBy wr (some g))) (fun _ i _ => 9 - (intOf i).toNat)
  case atStart => exact ⟨0, 0, by omega, by omega, rfl, rfl, by omega, rfl, H, fun n r _ _ => Nat.zero_le _, Nat.le_refl _, grown_refl w _⟩
  case round =>
    obtain ⟨j, x, hj9, hjs, rfl, rfl, hx0, HX, HR, HM, hwz, HG⟩ := hrel
    have h0 := HR.out.s
    by_cases hc : j < 9 ∧ j < s.size
    · obtain ⟨hj, hjz⟩ := hc
      have d1 : decide ((j : Int) ≤ 8) = true := by simp; omega
      have d2 : decide (j < s.size) = true := by simpa using hjz
      by_cases hj0 : j = 0
      · have d0 : decide (0 < j) = false := by simp; omega
        obtain ⟨Y, rfl⟩ : ∃ Y, Y = x := ⟨_, rfl⟩
        have HY : Hid (Y = ((numAt s j : Nat) : Int)) := by
          show _ = _
          rw [HX.out, hj0]
        have hy0 : 0 ≤ Y := by omega
        clear HX hx0 hj0
        have hy64 : Y < 18446744073709551616 := by
          rw [HY.out]
          have := bev_take_lt (s.data.toList.drop 1) j 8 (by omega)
          unfold numAt
          omega
        have cn := fun W => refNum_any Y W hy0 hy64
        have hyn : Y.toNat = numAt s j := by rw [HY.out, Int.toNat_natCast]
        rw [hyn] at cn
        have hpi := pre_iff s (numAt s j)
        have hn64 : numAt s j < 18446744073709551616 := by omega
        have hs0 : 0 < s.size := by omega
        obtain ⟨c0, hc0l, hc0⟩ : ∃ c : Nat, c < 256 ∧ ((s[0]'hs0).toNat : Int) = (c : Int) := ⟨_, (s[0]'hs0).toNat_lt, rfl⟩
        have hq8 : (numB (numAt s j)).size ≤ maxLen := by
          rw [numB_size]
          have := nb_le (numAt s j) hn64
          unfold maxLen
          omega
        have hgood : ∀ r, s.data.toList = encL (numAt s j) ++ r → c0 = nb (numAt s j) := by
          intro r hr
          have := head_enc s _ r hn64 hr hs0
          omega
        have hnext : ¬ (pre s (numB (numAt s j)) = true ∧ c0 = j) → Hid (∀ n r, n < 18446744073709551616 → s.data.toList = encL n ++ r → j + 1 ≤ nb n) := by
          intro hno n r hn hr
          have h1 := HM.out n r hn hr
          rcases Nat.lt_or_ge j (nb n) with h2 | h2
          · exact h2
          · exfalso
            have hj2 : nb n = j := by omega
            have hx := numAt_enc s n r hn hr
            rw [hj2] at hx
            apply hno
            rw [hx]
            refine ⟨(pre_iff s n).2 ⟨r, hr⟩, ?_⟩
            have := head_enc s n r hn hr hs0
            omega
        generalize hqq : numB (numAt s j) = q at *
        have cb := fun W => begins_any s q W hsm hq8
        cases hpre : pre s q
        · rw [hpre] at cb
          have CN := Lib.hid cn
          have CB := Lib.hid cb
          have HN := hnext (fun h => by rw [hpre] at h; exact absurd h.1 (by decide))
          clear cn cb hpi hgood hnext hpre hqq hyn hc0
          go_wp2_with fail
          first | (go_region_with ((first
            | (go_at_call 27; refine (CN.out _).mono ?_; rintro e w9 ⟨rfl, hb9⟩; have HR9 : Hid (RR w9 g s bad) := HR.out.below ((Below.refl _ _).drew.trans hb9) HR.out.lt; have h09 := HR9.out.s)
            | (go_at_call 49; refine (CB.out _).mono ?_; rintro e w' ⟨rfl, rfl⟩)))) | fail
          all_goals go_wp2_with fail
          all_goals go_roundw
          all_goals first
            | exact ⟨j + 1, _, by omega, by omega, by go_num, rfl, by omega, HY, HR9, HN, Nat.le_trans hwz hb9.size, grown_trans HG.out (grown_of_below ((Below.refl _ _).drew.trans hb9) _)⟩
            | exact ⟨⟨j + 1, _, by omega, by omega, by go_num, rfl, by omega, HY, HR9, HN, Nat.le_trans hwz hb9.size, grown_trans HG.out (grown_of_below ((Below.refl _ _).drew.trans hb9) _)⟩, by simp [intOf]; omega⟩
            | (simp [intOf]; omega)
        · obtain ⟨r, hr⟩ := hpi.1 hpre
          have hcn := hgood r hr
          rw [hpre] at cb
          by_cases hcj : c0 = j
          · have hfin := HSOME.out _ r hn64 hr
            have hex : s.extract (j + 1) s.size = ⟨r.toArray⟩ := by
              refine of_toList _ _ ?_
              rw [ex_drop, hr]
              exact List.drop_left' (by rw [encL_length]; omega)
            have HF := Lib.hid hfin
            have HE := Lib.hid hex
            have t1 : ((c0 : Int) == (j : Int)) = true := by rw [beq_iff_eq]; omega
            have hw0 : IntKind.i64.wrap (c0 : Int) = (c0 : Int) := IntWalk.i64_in _ (by omega)
            have CN := Lib.hid cn
            have CB := Lib.hid cb
            clear cn cb hpi hgood hnext hpre hqq hyn hfin hex hr hcn hcj
            go_wp2_with fail
            first | (go_region_with ((first
              | (go_at_call 27; refine (CN.out _).mono ?_; rintro e w9 ⟨rfl, hb9⟩; have HR9 : Hid (RR w9 g s bad) := HR.out.below ((Below.refl _ _).drew.trans hb9) HR.out.lt; have h09 := HR9.out.s; have f09 := HR9.out.f0)
              | (go_at_call 49; refine (CB.out _).mono ?_; rintro e w' ⟨rfl, rfl⟩)))) | fail
            all_goals
              have hset : Hid (AfterR w9 g (s.extract (j + 1) s.size) bad (w9.setCell ⟨g, 0, none⟩ (.string (s.extract (j + 1) s.size)))) := ⟨HR9.out.set0 _, grown_set w9 g 0 _⟩
              go_wp2_with fail
              go_ret
              rw [HF.out]
              exact ⟨ret_int HY.out, ⟨HE.out ▸ hset.out.1, grown_trans (grown_trans HG.out (grown_of_below ((Below.refl _ _).drew.trans hb9) _)) hset.out.2⟩⟩
          · have t1 : ((c0 : Int) == (j : Int)) = false := by rw [beq_eq_false_iff_ne]; omega
            have hw0 : IntKind.i64.wrap (c0 : Int) = (c0 : Int) := IntWalk.i64_in _ (by omega)
            have CN := Lib.hid cn
            have CB := Lib.hid cb
            have HN := hnext (fun h => hcj h.2)
            clear cn cb hpi hgood hnext hpre hqq hyn hr hcn hcj
            go_wp2_with fail
            first | (go_region_with ((first
              | (go_at_call 27; refine (CN.out _).mono ?_; rintro e w9 ⟨rfl, hb9⟩; have HR9 : Hid (RR w9 g s bad) := HR.out.below ((Below.refl _ _).drew.trans hb9) HR.out.lt; have h09 := HR9.out.s)
              | (go_at_call 49; refine (CB.out _).mono ?_; rintro e w' ⟨rfl, rfl⟩)))) | fail
            all_goals go_wp2_with fail
            all_goals go_roundw
            all_goals first
              | exact ⟨j + 1, _, by omega, by omega, by go_num, rfl, by omega, HY, HR9, HN, Nat.le_trans hwz hb9.size, grown_trans HG.out (grown_of_below ((Below.refl _ _).drew.trans hb9) _)⟩
              | exact ⟨⟨j + 1, _, by omega, by omega, by go_num, rfl, by omega, HY, HR9, HN, Nat.le_trans hwz hb9.size, grown_trans HG.out (grown_of_below ((Below.refl _ _).drew.trans hb9) _)⟩, by simp [intOf]; omega⟩
              | (simp [intOf]; omega)

      · have d0 : decide (0 < j) = true := by simp; omega
        obtain ⟨c, hc, hcu⟩ : ∃ c : Nat, c < 256 ∧ ((s[j]'hjz).toNat : Int) = (c : Int) := ⟨(s[j]'hjz).toNat, (s[j]'hjz).toNat_lt, rfl⟩
        have hX := HX.out
        have hx1 : x < 72057594037927936 := by
          rw [hX]
          have := bev_take_lt (s.data.toList.drop 1) (j - 1) 7 (by omega)
          unfold numAt
          omega
        obtain ⟨Y, hYe⟩ : ∃ Y, 256 * x + (c : Int) = Y := ⟨_, rfl⟩
        have hy0 : 0 ≤ Y := by omega
        have HY : Hid (Y = ((numAt s j : Nat) : Int)) := by
          show _ = _
          obtain ⟨m, rfl⟩ : ∃ m, j = m + 1 := ⟨j - 1, by omega⟩
          rw [Nat.add_sub_cancel] at hX
          rw [numAt_succ s m hjz, ← hYe, hX]
          omega
        clear hX hj0 HX
        have hy64 : Y < 18446744073709551616 := by
          rw [HY.out]
          have := bev_take_lt (s.data.toList.drop 1) j 8 (by omega)
          unfold numAt
          omega
        have cn := fun W => refNum_any Y W hy0 hy64
        have hyn : Y.toNat = numAt s j := by rw [HY.out, Int.toNat_natCast]
        rw [hyn] at cn
        have hpi := pre_iff s (numAt s j)
        have hn64 : numAt s j < 18446744073709551616 := by omega
        have hs0 : 0 < s.size := by omega
        obtain ⟨c0, hc0l, hc0⟩ : ∃ c : Nat, c < 256 ∧ ((s[0]'hs0).toNat : Int) = (c : Int) := ⟨_, (s[0]'hs0).toNat_lt, rfl⟩
        have hq8 : (numB (numAt s j)).size ≤ maxLen := by
          rw [numB_size]
          have := nb_le (numAt s j) hn64
          unfold maxLen
          omega
        have hgood : ∀ r, s.data.toList = encL (numAt s j) ++ r → c0 = nb (numAt s j) := by
          intro r hr
          have := head_enc s _ r hn64 hr hs0
          omega
        have hnext : ¬ (pre s (numB (numAt s j)) = true ∧ c0 = j) → Hid (∀ n r, n < 18446744073709551616 → s.data.toList = encL n ++ r → j + 1 ≤ nb n) := by
          intro hno n r hn hr
          have h1 := HM.out n r hn hr
          rcases Nat.lt_or_ge j (nb n) with h2 | h2
          · exact h2
          · exfalso
            have hj2 : nb n = j := by omega
            have hx := numAt_enc s n r hn hr
            rw [hj2] at hx
            apply hno
            rw [hx]
            refine ⟨(pre_iff s n).2 ⟨r, hr⟩, ?_⟩
            have := head_enc s n r hn hr hs0
            omega
        generalize hqq : numB (numAt s j) = q at *
        have cb := fun W => begins_any s q W hsm hq8
        cases hpre : pre s q
        · rw [hpre] at cb
          have CN := Lib.hid cn
          have CB := Lib.hid cb
          have HN := hnext (fun h => by rw [hpre] at h; exact absurd h.1 (by decide))
          clear cn cb hpi hgood hnext hpre hqq hyn hc0
          go_wp2_with fail
          first | (go_region_with ((first
            | (go_at_call 27; refine (CN.out _).mono ?_; rintro e w9 ⟨rfl, hb9⟩; have HR9 : Hid (RR w9 g s bad) := HR.out.below ((Below.refl _ _).drew.trans hb9) HR.out.lt; have h09 := HR9.out.s)
            | (go_at_call 49; refine (CB.out _).mono ?_; rintro e w' ⟨rfl, rfl⟩)))) | fail
          all_goals go_wp2_with fail
          all_goals go_roundw
          all_goals first
            | exact ⟨j + 1, _, by omega, by omega, by go_num, rfl, by omega, HY, HR9, HN, Nat.le_trans hwz hb9.size, grown_trans HG.out (grown_of_below ((Below.refl _ _).drew.trans hb9) _)⟩
            | exact ⟨⟨j + 1, _, by omega, by omega, by go_num, rfl, by omega, HY, HR9, HN, Nat.le_trans hwz hb9.size, grown_trans HG.out (grown_of_below ((Below.refl _ _).drew.trans hb9) _)⟩, by simp [intOf]; omega⟩
            | (simp [intOf]; omega)
        · obtain ⟨r, hr⟩ := hpi.1 hpre
          have hcn := hgood r hr
          rw [hpre] at cb
          by_cases hcj : c0 = j
          · have hfin := HSOME.out _ r hn64 hr
            have hex : s.extract (j + 1) s.size = ⟨r.toArray⟩ := by
              refine of_toList _ _ ?_
              rw [ex_drop, hr]
              exact List.drop_left' (by rw [encL_length]; omega)
            have HF := Lib.hid hfin
            have HE := Lib.hid hex
            have t1 : ((c0 : Int) == (j : Int)) = true := by rw [beq_iff_eq]; omega
            have hw0 : IntKind.i64.wrap (c0 : Int) = (c0 : Int) := IntWalk.i64_in _ (by omega)
            have CN := Lib.hid cn
            have CB := Lib.hid cb
            clear cn cb hpi hgood hnext hpre hqq hyn hfin hex hr hcn hcj
            go_wp2_with fail
            first | (go_region_with ((first
              | (go_at_call 27; refine (CN.out _).mono ?_; rintro e w9 ⟨rfl, hb9⟩; have HR9 : Hid (RR w9 g s bad) := HR.out.below ((Below.refl _ _).drew.trans hb9) HR.out.lt; have h09 := HR9.out.s; have f09 := HR9.out.f0)
              | (go_at_call 49; refine (CB.out _).mono ?_; rintro e w' ⟨rfl, rfl⟩)))) | fail
            all_goals
              have hset : Hid (AfterR w9 g (s.extract (j + 1) s.size) bad (w9.setCell ⟨g, 0, none⟩ (.string (s.extract (j + 1) s.size)))) := ⟨HR9.out.set0 _, grown_set w9 g 0 _⟩
              go_wp2_with fail
              go_ret
              rw [HF.out]
              exact ⟨ret_int HY.out, ⟨HE.out ▸ hset.out.1, grown_trans (grown_trans HG.out (grown_of_below ((Below.refl _ _).drew.trans hb9) _)) hset.out.2⟩⟩
          · have t1 : ((c0 : Int) == (j : Int)) = false := by rw [beq_eq_false_iff_ne]; omega
            have hw0 : IntKind.i64.wrap (c0 : Int) = (c0 : Int) := IntWalk.i64_in _ (by omega)
            have CN := Lib.hid cn
            have CB := Lib.hid cb
            have HN := hnext (fun h => hcj h.2)
            clear cn cb hpi hgood hnext hpre hqq hyn hr hcn hcj
            go_wp2_with fail
            first | (go_region_with ((first
              | (go_at_call 27; refine (CN.out _).mono ?_; rintro e w9 ⟨rfl, hb9⟩; have HR9 : Hid (RR w9 g s bad) := HR.out.below ((Below.refl _ _).drew.trans hb9) HR.out.lt; have h09 := HR9.out.s)
              | (go_at_call 49; refine (CB.out _).mono ?_; rintro e w' ⟨rfl, rfl⟩)))) | fail
            all_goals go_wp2_with fail
            all_goals go_roundw
            all_goals first
              | exact ⟨j + 1, _, by omega, by omega, by go_num, rfl, by omega, HY, HR9, HN, Nat.le_trans hwz hb9.size, grown_trans HG.out (grown_of_below ((Below.refl _ _).drew.trans hb9) _)⟩
              | exact ⟨⟨j + 1, _, by omega, by omega, by go_num, rfl, by omega, HY, HR9, HN, Nat.le_trans hwz hb9.size, grown_trans HG.out (grown_of_below ((Below.refl _ _).drew.trans hb9) _)⟩, by simp [intOf]; omega⟩
              | (simp [intOf]; omega)

    · have hn := HNONE.out (fun n r hn hr => by
        have h1 := HM.out n r hn hr
        have h2 := nb_le n hn
        have h3 := congrArg List.length hr
        rw [size_list, List.length_append, encL_length] at h3
        omega)
      have HN := Lib.hid hn
      clear hn
      by_cases h8 : j ≤ 8
      · have d1 : decide ((j : Int) ≤ 8) = true := by simp; omega
        have d2 : decide (j < s.size) = false := by simp; omega
        clear hc
        go_wp2_with fail
        refine (rspoil_any g s bad _ HR.out).mono ?_
        rintro e w1 ⟨rfl, ha⟩
        go_wp2_with fail
        go_ret
        rw [HN.out]
        exact ⟨rfl, ha.1, grown_trans HG.out ha.2⟩
      · have d1 : decide ((j : Int) ≤ 8) = false := by simp; omega
        clear hc
        go_wp2_with fail
        refine (rspoil_any g s bad _ HR.out).mono ?_
        rintro e w1 ⟨rfl, ha⟩
        go_wp2_with fail
        go_ret
        rw [HN.out]
        exact ⟨rfl, ha.1, grown_trans HG.out ha.2⟩
end Go.Proofs.YtaknmionaibodaaDoor.Notch
