/-
nat.Parse: the number that decimal digits tell, or what is wrong with them.
-/
import Derived.Test.YtpnllalefpkcjaaGreatDoorNatTextW
namespace Go.Proofs.YtpnllalefpkcjaaGreatDoor.Nat_
open Go.RowKit

/-- What Parse tells of a text. -/
def Parsed (B : Nat) (w : World) (l : List UInt8) (e : Ending) : Prop :=
  (40000 < l.length ∧ e = .returned (.tuple #[.slice none 0 0, .int .i64 3])) ∨
  (l.length ≤ 40000 ∧ (l = [] ∨ ∃ c ∈ l, isDig c = false) ∧ e = .returned (.tuple #[.slice none 0 0, .int .i64 5])) ∨
  (l.length ≤ 40000 ∧ l ≠ [] ∧ (∀ c ∈ l, isDig c = true) ∧ Told B w (parseL l) e)

theorem isdig_any (c : UInt8) (w : World) :
    Calls Tryz.prog 86 #[.int .u8 (c.toNat : Int)] w fun e w' => e = .returned (.bool (!isDig c)) ∧ w' = w := by
  have h1 : (c < 48) ↔ c.toNat < 48 := by rw [UInt8.lt_iff_toNat_lt]; rfl
  have h2 : (57 < c) ↔ 57 < c.toNat := by rw [UInt8.lt_iff_toNat_lt]; rfl
  have hd : isDig c = !(decide (c.toNat < 48) || decide (57 < c.toNat)) := by
    unfold isDig
    rw [decide_eq_decide.2 h1, decide_eq_decide.2 h2]
  rw [hd]
  have hc := c.toNat_lt
  clear hd h1 h2
  generalize c.toNat = x at *
  have hh : (decide ((x : Int) < 48) || decide (57 < (x : Int))) = !!(decide (x < 48) || decide (57 < x)) := by
    rw [Bool.not_not]
    congr 1 <;> (rw [decide_eq_decide]; omega)
  rw [← hh]
  clear hh
  go_enter Tryz.func86, Tryz.ntmps86
  go_wp2
  all_goals go_ret
  all_goals exact ⟨by first | rfl | (exact ret_bool (by simp; omega)), rfl⟩
set_option maxHeartbeats 1000000 in
theorem indexb_any (g len cap : Nat) (l : List UInt8) (z : List Value) (w : World) (h : Blk w g 5 (bytesV l ++ z)) (hl : l.length = len) (hlen : len ≤ 1000000) :
    Calls Tryz.prog 106 #[.slice (some ⟨g, 0, none⟩) len cap, .func (.func 86) #[] #[]] w fun e w' =>
      ∃ k : Int, e = .returned (.int .i64 k) ∧ (0 ≤ k ↔ ∃ c ∈ l, isDig c = false) ∧ w' = w := by
  go_enter Tryz.func106, Tryz.ntmps106
  go_wp2
  go_loop [8] (fun i => ∃ j : Nat, j ≤ len ∧ i = .int .i64 (j : Int) ∧ Hid (∀ c ∈ l.take j, isDig c = true)) (fun i => len - (intOf i).toNat)
  case atStart => exact ⟨0, Nat.zero_le _, rfl, by intro n hn; simp at hn⟩
  case round =>
    obtain ⟨j, hj, rfl, HN⟩ := hrel
    by_cases hlt : j < len
    · have hjl : j < l.length := by omega
      have hcell : w.cell? ⟨g, j, none⟩ = some (.int .u8 ((l[j]).toNat : Int)) := by
        rw [h.cell, List.getElem?_append_left (by rw [bytesV_length]; omega), bytesV_get _ _ hjl]
      have e1 : l.take (j + 1) = l.take j ++ [l[j]] := List.take_succ_eq_append_getElem hjl
      have e2 : l[j] ∈ l := List.getElem_mem hjl
      generalize l[j] = c at *
      have hcall := isdig_any c w
      go_wp2_with fail
      refine hcall.mono ?_
      rintro e w' ⟨rfl, rfl⟩
      cases hL : isDig c with
      | false =>
        go_wp2
        go_ret
        exact ⟨_, rfl, ⟨fun _ => ⟨c, e2, hL⟩, fun _ => by omega⟩, rfl⟩
      | true =>
        go_wp2
        go_round
        case rel =>
          refine ⟨j + 1, by omega, by simp, ?_⟩
          intro m hm
          rw [e1] at hm
          rcases List.mem_append.1 hm with hm | hm
          · exact HN m hm
          · obtain rfl : m = c := by simpa using hm
            exact hL
        case measure => simp [intOf]; omega
    · obtain rfl : j = len := by omega
      go_wp2
      go_ret
      refine ⟨_, rfl, ⟨fun h => absurd h (by decide), ?_⟩, rfl⟩
      rintro ⟨c, hc, hd⟩
      have := HN c (by rw [List.take_of_length_le (by omega)]; exact hc)
      rw [this] at hd
      cases hd
theorem containsb_any (g len cap : Nat) (l : List UInt8) (z : List Value) (w : World) (h : Blk w g 5 (bytesV l ++ z)) (hl : l.length = len) (hlen : len ≤ 1000000) :
    Calls Tryz.prog 85 #[.slice (some ⟨g, 0, none⟩) len cap, .func (.func 86) #[] #[]] w fun e w' =>
      ((e = .returned (.bool true) ∧ ∃ c ∈ l, isDig c = false) ∨ (e = .returned (.bool false) ∧ ∀ c ∈ l, isDig c = true)) ∧ w' = w := by
  go_enter Tryz.func85, Tryz.ntmps85
  go_wp2_with fail
  refine (indexb_any g len cap l z _ h hl hlen).mono ?_
  rintro e w' ⟨k, rfl, hk0, rfl⟩
  have HK := Lib.hid hk0
  clear hk0
  go_wp2
  go_ret
  refine ⟨?_, rfl⟩
  have hk := HK.out
  clear HK
  by_cases h0 : 0 ≤ k
  · exact .inl ⟨ret_bool (decide_eq_true h0), hk.1 h0⟩
  · refine .inr ⟨ret_bool (decide_eq_false h0), fun c hc => ?_⟩
    cases hd : isDig c with
    | true => rfl
    | false => exact absurd (hk.2 ⟨c, hc, hd⟩) h0

theorem dig_sub (c : UInt8) (h : isDig c = true) : 48 ≤ c.toNat ∧ c.toNat ≤ 57 := by
  have h1 : (c < 48) ↔ c.toNat < 48 := by rw [UInt8.lt_iff_toNat_lt]; rfl
  have h2 : (57 < c) ↔ 57 < c.toNat := by rw [UInt8.lt_iff_toNat_lt]; rfl
  unfold isDig at h
  simp only [Bool.not_eq_true', Bool.or_eq_false_iff, decide_eq_false_iff_not, h1, h2] at h
  omega

set_option maxRecDepth 100000 in
set_option maxHeartbeats 2000000 in
theorem parse_any (s : ByteArray) (w : World) (hs : s.size ≤ maxLen) :
    Calls Tryz.prog 70 #[.string s] w fun e w' => Parsed w.heap.size w' s.data.toList e ∧ Below w.heap.size w w' := by
  have hsl : s.data.toList.length = s.size := by simp
  unfold maxLen at hs
  by_cases hbig : 40000 < s.size
  · go_enter Tryz.func70, Tryz.ntmps70
    go_wp2_with fail
    go_ret2
    exact ⟨.inl ⟨by rw [hsl]; exact hbig, rfl⟩, Below.refl _ _⟩
  by_cases hemp : s = ByteArray.empty
  · subst hemp
    go_enter Tryz.func70, Tryz.ntmps70
    go_wp2_with fail
    go_ret2
    exact ⟨.inr (.inl ⟨by simp, .inl rfl, rfl⟩), Below.refl _ _⟩
  have hnil : s.data.toList ≠ [] := by
    intro h
    apply hemp
    apply ByteArray.ext
    apply Array.ext'
    exact h
  have hne : s.toList.isEmpty = false := by rw [ByteArray.toList_eq]; exact List.isEmpty_eq_false_iff.2 hnil
  obtain ⟨cap, W1, hconv, hcap, hcm, hsz1, hblk, hb1⟩ := str_bytes (P := Tryz.prog) w 9 89 5 s Tryz.underlying9 Tryz.underlying89 Tryz.underlying5 (by unfold maxLen; omega)
  go_enter Tryz.func70, Tryz.ntmps70
  go_wp2_with fail
  refine (containsb_any w.heap.size s.size cap s.data.toList _ W1 hblk hsl (by omega)).mono ?_
  rintro e w' ⟨⟨rfl, hbad⟩ | ⟨rfl, hgood⟩, rfl⟩
  · go_wp2_with fail
    go_ret2
    exact ⟨.inr (.inl ⟨by rw [hsl]; omega, .inr hbad, rfl⟩), hb1⟩
  have A : Go.Aside ((∀ c ∈ s.data.toList, isDig c = true) ∧ s.data.toList ≠ []) := ⟨hgood, hnil⟩
  have hfinal : ∀ (B : Nat) (W : World) (e : Ending), Told B W (parseL s.data.toList) e → Parsed B W s.data.toList e := fun B W e h => .inr (.inr ⟨by rw [hsl]; omega, hnil, hgood, h⟩)
  have HF := Lib.hid hfinal
  clear hfinal hnil hgood hblk hconv hcap hcm hsz1 hsl hemp
  go_wp2_with fail
  go_loopw [4, 5] (fun ov iv wr => ∃ (i : Nat) (a : Option Addr) (c : Nat) (m : Nat), i ≤ s.size ∧ iv = .int .i64 (i : Int) ∧ ov = .slice a (nl m) c ∧ NN w.heap.size wr (.slice a (nl m) c) m ∧ Hid (m = parseL (s.data.toList.take i)) ∧ m < Lim ∧ Below w.heap.size w wr) (fun _ iv _ => s.size - (intOf iv).toNat)
  case atStart => exact ⟨0, none, 0, 0, Nat.zero_le _, rfl, rfl, NN.nil _ _, rfl, lim_small 0 1 (by decide) (by decide), hb1⟩
  case round =>
    obtain ⟨i, a, c, m, hi, rfl, rfl, hN, HP, hmL, hbel⟩ := hrel
    have hms := hN.size
    by_cases hlt : i < s.size
    · go_wp2_with fail
      go_loop [5, 6, 7] (fun iv nv bv => ∃ (p j n b : Nat) (iN iB : Int), i ≤ p ∧ (p = i → b = 1) ∧ p ≤ s.size ∧ iv = .int .i64 (p : Int) ∧ nv = .int .u64 iN ∧ bv = .int .u64 iB ∧ (n : Int) = iN ∧ (b : Int) = iB ∧ n < b ∧ b ≤ 1000000000000000000 ∧ Hid (b = 10 ^ j ∧ j ≤ 18 ∧ parseL (s.data.toList.take p) = m * b + n)) (fun iv _ _ => s.size - (intOf iv).toNat)
      case atStart => exact ⟨i, 0, 0, 1, 0, 1, Nat.le_refl _, fun _ => rfl, hi, rfl, rfl, rfl, rfl, rfl, by decide, by decide, ⟨rfl, by decide, by rw [← HP.out]; simp⟩⟩
      case round =>
        obtain ⟨p, j, n, b, iN, iB, hip, hpi, hp, rfl, rfl, rfl, en, eb, hnb, hb18, H⟩ := hrel
        by_cases hgo : p < s.size ∧ b < 1000000000000000000
        · obtain ⟨hg1, hg2⟩ := hgo
          have hg3 : iB < 1000000000000000000 := by omega
          have hmem : s[p] ∈ s.data.toList := by
            show s.data[p] ∈ s.data.toList
            exact Array.getElem_mem_toList _
          have hdg := dig_sub _ (A.out.1 _ hmem)
          have hsn : s.data.toList.take (p + 1) = s.data.toList.take p ++ [s[p]] := by
            rw [List.take_succ_eq_append_getElem (by simpa using hg1)]; rfl
          have hval : parseL (s.data.toList.take (p + 1)) = m * (b * 10) + (n * 10 + ((s[p]).toNat - 48)) := by
            rw [hsn, parseL_snoc, H.out.2.2, Nat.add_mul, Nat.mul_assoc]
            omega
          have hj18 : j + 1 ≤ 18 := by
            have h1 := H.out.1
            rcases Nat.lt_or_ge j 18 with h | h
            · omega
            · have h2 : j = 18 := by have := H.out.2.1; omega
              rw [h1, h2] at hg2
              exact absurd hg2 (by decide)
          have hb17 : b ≤ 100000000000000000 := by
            have h1 := H.out.1
            rw [h1]
            exact Nat.le_trans (Nat.pow_le_pow_right (by decide) (show j ≤ 17 by omega)) (by decide)
          have H2 := Lib.hid (show b * 10 = 10 ^ (j + 1) ∧ j + 1 ≤ 18 ∧ parseL (s.data.toList.take (p + 1)) = m * (b * 10) + (n * 10 + ((s[p]).toNat - 48)) from ⟨by rw [H.out.1, Nat.pow_succ], hj18, hval⟩)
          clear hval hsn hmem H hj18
          go_wp2_with fail
          go_round
          case rel => exact ⟨p + 1, j + 1, n * 10 + ((s[p]).toNat - 48), b * 10, _, _, by omega, by omega, by omega, by simp, rfl, rfl, by omega, by omega, by omega, by omega, H2⟩
          case measure => simp [intOf]; omega
        · have hpi2 : i < p := by
            rcases Nat.lt_or_ge i p with h | h
            · exact h
            · exact absurd ⟨by omega, by rw [hpi (by omega)]; decide⟩ hgo
          have hcond : p = s.size ∨ (p < s.size ∧ 1000000000000000000 ≤ iB) := by omega
          have hb64 : b < 18446744073709551616 := by omega
          have hn64 : n < 18446744073709551616 := by omega
          have hbL : b < Lim := lim_small b 1 (by decide) (by simpa using hb64)
          have hle : m * b + n ≤ parseL s.data.toList := by
            rw [← H.out.2.2]
            have := parseL_mono (s.data.toList.take p) (s.data.toList.drop p)
            rwa [List.take_append_drop] at this
          have HLE := Lib.hid hle
          have HE := Lib.hid H.out.2.2
          have HBL := Lib.hid hbL
          clear H hle hbL hpi hgo HP
          rcases hcond with hc | ⟨hc, hc2⟩
          all_goals
            go_wp2_with fail
            subst eb
            subst en
            have hal := (Below.refl wr.heap.size wr).alloc (Nat.le_refl _) (.cells #[.int .u64 (b : Int)] 26)
            refine (mul_ok _ _ m b _ (hN.nm.below hal) (Nm.one _ _ b hb64) hmL HBL.out).mono ?_
            rintro e w2 ⟨⟨hlt2, a2, c2, rfl, hn2⟩ | ⟨hge, rfl⟩, hb2⟩
            · have hbel2 : Below w.heap.size w w2 := hbel.trans ((hal.trans (hb2.mono (by simp))).mono hbel.size)
              have hn2s := hn2.size
              have HL2 := Lib.hid hlt2
              clear hlt2
              go_wp2_with fail
              have hal2 := (Below.refl w2.heap.size w2).alloc (Nat.le_refl _) (.cells #[.int .u64 (n : Int)] 26)
              refine (add_any _ _ (m * b) n _ (hn2.nm.below hal2) (Nm.one _ _ n hn64)).mono ?_
              rintro e w3 ⟨⟨hlt3, a3, c3, rfl, hn3⟩ | ⟨hge, rfl⟩, hb3⟩
              · have hbel3 : Below w.heap.size w w3 := hbel2.trans ((hal2.trans (hb3.mono (by simp))).mono hbel2.size)
                have hn3' : NN w.heap.size w3 (.slice a3 (nl (m * b + n)) c3) (m * b + n) := hn3.ge (by have := hbel2.size; simp; omega)
                go_wp2_with fail
                go_roundw
                case rel => exact ⟨p, a3, c3, m * b + n, hp, by first | rfl | (simp; omega), rfl, hn3', HE.out.symm, hlt3, hbel3⟩
                case measure => simp [intOf]; omega
              · have hbel3 : Below w.heap.size w w3 := hbel2.trans ((hal2.trans (hb3.mono (by simp))).mono hbel2.size)
                go_wp2_with fail
                go_ret2
                exact ⟨HF.out _ _ _ (.inr ⟨Nat.le_trans hge HLE.out, rfl⟩), hbel3⟩
            · have hbel2 : Below w.heap.size w w2 := hbel.trans ((hal.trans (hb2.mono (by simp))).mono hbel.size)
              go_wp2_with fail
              go_ret2
              exact ⟨HF.out _ _ _ (.inr ⟨Nat.le_trans hge (Nat.le_trans (Nat.le_add_right _ _) HLE.out), rfl⟩), hbel2⟩
    · obtain rfl : i = s.size := by omega
      have hP := HP.out
      rw [List.take_of_length_le (by simp)] at hP
      have HP2 := Lib.hid hP
      clear hP HP
      go_wp2_with fail
      go_ret2
      exact ⟨HF.out _ _ _ (.inl ⟨by rw [← HP2.out]; exact hmL, a, c, by rw [← HP2.out]; rfl, by rw [← HP2.out]; exact hN⟩), hbel⟩
end Go.Proofs.YtpnllalefpkcjaaGreatDoor.Nat_
