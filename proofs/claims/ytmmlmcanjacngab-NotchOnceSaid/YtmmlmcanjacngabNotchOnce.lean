/-
NotchOnce: what a reader tells well, put again, are the bytes that it went through; texts of more than 3000 bytes are let go. No condition.
-/
import Derived.Test.YtmmlmcanjacngabNotchHead
import Derived.Test.YtmmlmcanjacngabRecs
namespace Go.Proofs.Ytmmlmcanjacngab.Notch
open Go.RowKit

theorem textB_list (s : ByteArray) : (textB s).data.toList = encT s.data.toList := by simp [textB]
theorem encB_list (n : Nat) : (encB [n]).data.toList = encL n := by simp [encB, encAll]
theorem numR_ok (s : ByteArray) (n : Nat) (t : ByteArray) (h : numR s false = (n, t, false)) : n < 18446744073709551616 ∧ s.data.toList = encL n ++ t.data.toList := by
  unfold numR at h
  rw [if_neg (by decide)] at h
  cases hr : readN s.data.toList with
  | none => rw [hr] at h; simp at h
  | some x =>
    obtain ⟨m, r⟩ := x
    rw [hr] at h
    simp only [Prod.mk.injEq] at h
    obtain ⟨rfl, rfl, -⟩ := h
    exact readN_some _ _ _ hr
theorem takeR_ok (s : ByteArray) (n : Int) (x t : ByteArray) (h : takeR s false n = (x, t, false)) : s.data.toList = x.data.toList ++ t.data.toList := by
  unfold takeR at h
  rw [if_neg (by decide)] at h
  split at h
  · simp at h
  · simp only [Prod.mk.injEq] at h
    obtain ⟨rfl, rfl, -⟩ := h
    rw [ex_take, ex_drop, List.take_append_drop]
theorem textR_ok (s : ByteArray) (n : Int) (x t : ByteArray) (h : textR s false n = (x, t, false)) : s.data.toList = encT x.data.toList ++ t.data.toList := by
  unfold textR at h
  obtain ⟨⟨m, r, b⟩, hq⟩ : ∃ q, numR s false = q := ⟨_, rfl⟩
  rw [hq] at h
  simp only at h
  cases b
  · obtain ⟨-, h2⟩ := numR_ok s m r hq
    rw [if_neg (by decide)] at h
    split at h
    · simp at h
    · rename_i hc
      simp only [Prod.mk.injEq] at h
      obtain ⟨rfl, rfl, -⟩ := h
      have hl : (r.data.toList.take m).length = m := by
        rw [List.length_take, size_list]; omega
      rw [h2, encT, ex_take, ex_drop, hl, List.append_assoc, List.take_append_drop]
  · rw [if_pos rfl] at h
    simp at h
theorem textR_small (s : ByteArray) (n : Int) : (textR s false n).1.size ≤ s.size := by
  unfold textR
  have h2 := (numR_bd s false).2
  split
  · exact Nat.zero_le _
  · split
    · exact Nat.zero_le _
    · show (ByteArray.extract _ _ _).size ≤ _
      rw [ByteArray.size_extract]
      omega
/-- What a good step has gone through. -/
theorem step_facts (s S P S2 : ByteArray) (A : Nat) (h : s.data.toList.drop A = S.data.toList) (hA : A + S.size = s.size) (hp : S.data.toList = P.data.toList ++ S2.data.toList) :
    A + P.size + S2.size = s.size ∧ s.extract A (A + P.size) = P ∧ s.data.toList.drop (A + P.size) = S2.data.toList := by
  have h1 := congrArg List.length hp
  rw [size_list, List.length_append, size_list, size_list] at h1
  refine ⟨by omega, ?_, ?_⟩
  · rw [of_toList P _ rfl]
    refine of_toList _ _ ?_
    simp only [ByteArray.data_extract, Array.toList_extract, List.extract]
    rw [h, hp, Nat.add_sub_cancel_left]
    exact List.take_left' (by rw [size_list])
  · rw [← List.drop_drop, h, hp]
    exact List.drop_left' (by rw [size_list])
theorem step_size (s P S2 : ByteArray) (A : Nat) (h : A + P.size + S2.size = s.size) : ((S2.size : Int) != (s.size : Int) - (A : Int) - (P.size : Int)) = false := by simp; omega

set_option maxRecDepth 20000 in
set_option maxHeartbeats 8000000 in
theorem notchOnce_walk (s : ByteArray) (a : Option Addr) (len cap : Nat) (rows : List (List Value)) (w : World) (hs : s.size ≤ maxLen) (hrow : IsRecs w a len cap 2 rows)
    (hpr : ∀ r ∈ rows, ∃ (x0 : Int) (x1 : Int), r = [.int .u8 x0, .int .i64 x1] ∧ (Lit.int .u8 x0).wf = true ∧ (Lit.int .i64 x1).wf = true) :
    Calls Try.prog 3 #[.string s, .slice a len cap] w fun e w' => e = .returned (.bool true) ∧ Below w.heap.size w w' := by
  by_cases hl : 3000 < s.size
  · unfold maxLen at hs
    clear hrow hpr
    go_enter Try.func3, Try.ntmps3
    go_wp2_with fail
    refine (head_any w).mono ?_
    rintro e w1 ⟨rfl, hb1⟩
    go_wp2_with fail
    go_ret
    exact ⟨rfl, hb1⟩
  obtain ⟨hll, hlc, hcm, hcells⟩ := hrow
  unfold maxLen at hcm
  have HC := Lib.hid hcells
  have HL := Lib.hid hll
  have HP := Lib.hid hpr
  clear hll hcells hpr
  obtain ⟨g, hg⟩ : ∃ g, w.heap.size = g := ⟨_, rfl⟩
  have c1 := open_new s w
  rw [hg] at c1 ⊢
  have C1 := Lib.hid c1
  clear c1
  go_enter Try.func3, Try.ntmps3
  go_wp2_with fail
  refine C1.out.mono ?_
  rintro e w1 ⟨rfl, hr1, hlt1, hb1⟩
  have R1 := Lib.hid hr1
  have B1 := Lib.hid hb1
  clear hr1 hb1
  go_wp2_with fail
  go_loopw [6, 7] (fun at_ i wr => ∃ (j A : Nat) (S : ByteArray), j ≤ len ∧ j ≤ 100 ∧ i = .int .i64 (j : Int) ∧ at_ = .int .i64 (A : Int) ∧ A + S.size = s.size ∧ Hid (s.data.toList.drop A = S.data.toList) ∧ Hid (Rdr wr g S false) ∧ g < wr.heap.size ∧ Hid (Below g w wr)) (fun _ i _ => 100 - (intOf i).toNat)
  case atStart => exact ⟨0, 0, s, by omega, by omega, rfl, rfl, by omega, rfl, R1, hlt1, B1⟩
  case round =>
    obtain ⟨j, A, S, hj, hj100, rfl, rfl, hA, HS, HR, hgw, HB⟩ := hrel
    by_cases hc : j < len ∧ j < 100
    · obtain ⟨hlt, hjl⟩ := hc
      have dd1 : decide (j < len) = true := by simpa using hlt
      have dd2 : decide ((j : Int) < 100) = true := by simp; omega
      obtain ⟨bb, off, ha, hbw, hcs⟩ := HC.out (by omega)
      subst ha
      obtain ⟨r, hr⟩ : ∃ r, rows[j]? = some r := ⟨rows[j]'(by rw [HL.out]; exact hlt), List.getElem?_eq_getElem _⟩
      obtain ⟨x0, n, rfl, z0, z1⟩ := HP.out r (List.mem_of_getElem? hr)
      have hcell0 : wr.cell? ⟨bb, off + j * 2, none⟩ = some (.int .u8 x0) := (HB.out.cell (p := ⟨bb, off + (j * 2 + 0), none⟩) (by show bb < g; omega)).trans (hcs j _ hr 0 _ rfl)
      obtain ⟨u0, u1⟩ := bounds_u8 z0
      obtain ⟨n0, n1⟩ := bounds_i64 z1
      obtain ⟨c, rfl⟩ := Int.eq_ofNat_of_zero_le u0
      have HW : Hid (w.cell? ⟨bb, off + j * 2 + 1, none⟩ = some (.int .i64 n)) := hcs j _ hr 1 _ rfl
      have hcell1 : wr.cell? ⟨bb, off + j * 2 + 1, none⟩ = some (.int .i64 n) := (HB.out.cell (p := ⟨bb, off + (j * 2 + 1), none⟩) (by show bb < g; omega)).trans HW.out
      clear hr hcs z0 z1 u0
      by_cases hm0 : c % 3 = 0
      · have c1 := num_any g S false wr (by unfold maxLen; omega) HR.out
        have ho := fun m t h => (numR_ok S m t h).2
        obtain ⟨hn1, -⟩ := numR_bd S false
        generalize numR S false = T at *
        obtain ⟨n2, S2, b2⟩ := T
        simp only at c1 hn1
        obtain ⟨P, hP⟩ : ∃ P, encB [n2] = P := ⟨_, rfl⟩
        have HOK : Hid (b2 = false → S.data.toList = P.data.toList ++ S2.data.toList) := by
          intro hb
          rw [← hP, encB_list]
          exact ho _ _ (by rw [hb])
        have hPs := encB_size n2 hn1
        have c2 := fun W e => put_any (n2 : Int) W (by omega) (by omega) e
        simp only [Int.toNat_natCast] at c2
        rw [hP] at hPs
        simp only [hP] at c2
        have C1 := Lib.hid c1
        have C2 := Lib.hid c2
        clear c1 c2 ho hP
        obtain ⟨N2, hN2⟩ : ∃ N2 : Int, (n2 : Int) = N2 := ⟨_, rfl⟩
        rw [hN2] at C1 C2
        have hN0 : 0 ≤ N2 := by omega
        have hN1 : N2 < 18446744073709551616 := by omega
        clear hN2 hn1
        go_wp2_with fail
        refine C1.out.mono ?_
        rintro e w2 ⟨rfl, ha2⟩
        have HR2 := Lib.hid ha2.1
        have hg2 : g < w2.heap.size := Nat.lt_of_lt_of_le hgw ha2.2.size
        have HB2 : Hid (Below g w w2) := below_grown HB.out ha2.2 (by omega) (Nat.le_refl _)
        clear ha2
        go_wp2_with fail
        refine (C2.out w2 _).mono ?_
        rintro e w3 ⟨rfl, hb3⟩
        have HR3 : Hid (Rdr w3 g S2 b2) := HR2.out.below hb3 hg2
        have HB3 : Hid (Below g w w3) := HB2.out.trans (hb3.mono (Nat.le_of_lt hg2))
        have hg3 : g < w3.heap.size := Nat.lt_of_lt_of_le hg2 hb3.size
        clear hb3
        cases b2
        · obtain ⟨q1, q2, q3⟩ := step_facts s S P S2 A HS.out hA (HOK.out rfl)
          have hne := step_size s P S2 A q1
          obtain ⟨E, hEd⟩ : ∃ E, A + P.size = E := ⟨_, rfl⟩
          have hE : (A : Int) + (P.size : Int) = (E : Int) := by omega
          rw [hEd] at q1 q2 q3
          have HS3 := Lib.hid q3
          have t1 : (P.toList == P.toList) = true := by simp
          have t2 : decide (s.size < E) = false := by simp; omega
          have hle : E ≤ s.size := by omega
          have hAE : A ≤ E := by omega
          clear HOK q3 HS hEd
          go_wp2_with fail
          refine (isbad_any g S2 false _ HR3.out).mono ?_
          rintro e w' ⟨rfl, rfl⟩
          go_wp2_with fail
          refine (left_any g S2 false _ HR3.out).mono ?_
          rintro e w' ⟨rfl, rfl⟩
          rw [show ((leftR S2 false : Nat) : Int) = (S2.size : Int) from rfl]
          go_wp2_with fail
          go_roundw
          first
            | exact ⟨⟨j + 1, E, S2, by omega, by omega, by go_num, by go_num, q1, HS3, HR3, hg3, HB3⟩, by simp [intOf]; omega⟩
            | (case rel => exact ⟨j + 1, E, S2, by omega, by omega, by go_num, by go_num, q1, HS3, HR3, hg3, HB3⟩
               case measure => simp [intOf]; omega)
        · clear HOK HS
          go_wp2_with fail
          refine (isbad_any g S2 true _ HR3.out).mono ?_
          rintro e w' ⟨rfl, rfl⟩
          go_wp2_with fail
          refine (left_any g S2 true _ HR3.out).mono ?_
          rintro e w' ⟨rfl, rfl⟩
          rw [show ((leftR S2 true : Nat) : Int) = 0 from rfl]
          go_wp2_with fail
          refine (head_any _).mono ?_
          rintro e w4 ⟨rfl, hb4⟩
          go_wp2_with fail
          go_ret
          exact ⟨rfl, HB3.out.trans (hb4.mono (Nat.le_of_lt hg3))⟩
      by_cases hm1 : c % 3 = 1
      · have c1 := text_any g S false n wr (by unfold maxLen; omega) n0 n1 HR.out
        have ho := fun x t h => textR_ok S n x t h
        have hsm := textR_small S n
        generalize textR S false n = T at *
        obtain ⟨x2, S2, b2⟩ := T
        simp only at c1 hsm
        obtain ⟨P, hP⟩ : ∃ P, textB x2 = P := ⟨_, rfl⟩
        have HOK : Hid (b2 = false → S.data.toList = P.data.toList ++ S2.data.toList) := by
          intro hb
          rw [← hP, textB_list]
          exact ho _ _ (by rw [hb])
        have hPs : P.size ≤ 4000 := by
          rw [← hP]
          show (encT x2.data.toList).toArray.size ≤ 4000
          have := nb_le x2.size (by omega)
          rw [List.size_toArray, encT, List.length_append, encL_length, size_list]
          omega
        have c2 := fun W => putText_any x2 W (by omega)
        simp only [hP] at c2
        have C1 := Lib.hid c1
        have C2 := Lib.hid c2
        clear c1 c2 ho hP
        go_wp2_with fail
        refine C1.out.mono ?_
        rintro e w2 ⟨rfl, ha2⟩
        have HR2 := Lib.hid ha2.1
        have hg2 : g < w2.heap.size := Nat.lt_of_lt_of_le hgw ha2.2.size
        have HB2 : Hid (Below g w w2) := below_grown HB.out ha2.2 (by omega) (Nat.le_refl _)
        clear ha2
        go_wp2_with fail
        refine (C2.out w2).mono ?_
        rintro e w3 ⟨rfl, hb3⟩
        have HR3 : Hid (Rdr w3 g S2 b2) := HR2.out.below hb3 hg2
        have HB3 : Hid (Below g w w3) := HB2.out.trans (hb3.mono (Nat.le_of_lt hg2))
        have hg3 : g < w3.heap.size := Nat.lt_of_lt_of_le hg2 hb3.size
        clear hb3
        cases b2
        · obtain ⟨q1, q2, q3⟩ := step_facts s S P S2 A HS.out hA (HOK.out rfl)
          have hne := step_size s P S2 A q1
          obtain ⟨E, hEd⟩ : ∃ E, A + P.size = E := ⟨_, rfl⟩
          have hE : (A : Int) + (P.size : Int) = (E : Int) := by omega
          rw [hEd] at q1 q2 q3
          have HS3 := Lib.hid q3
          have t1 : (P.toList == P.toList) = true := by simp
          have t2 : decide (s.size < E) = false := by simp; omega
          have hle : E ≤ s.size := by omega
          have hAE : A ≤ E := by omega
          clear HOK q3 HS hEd
          go_wp2_with fail
          refine (isbad_any g S2 false _ HR3.out).mono ?_
          rintro e w' ⟨rfl, rfl⟩
          go_wp2_with fail
          refine (left_any g S2 false _ HR3.out).mono ?_
          rintro e w' ⟨rfl, rfl⟩
          rw [show ((leftR S2 false : Nat) : Int) = (S2.size : Int) from rfl]
          go_wp2_with fail
          go_roundw
          first
            | exact ⟨⟨j + 1, E, S2, by omega, by omega, by go_num, by go_num, q1, HS3, HR3, hg3, HB3⟩, by simp [intOf]; omega⟩
            | (case rel => exact ⟨j + 1, E, S2, by omega, by omega, by go_num, by go_num, q1, HS3, HR3, hg3, HB3⟩
               case measure => simp [intOf]; omega)
        · clear HOK HS
          go_wp2_with fail
          refine (isbad_any g S2 true _ HR3.out).mono ?_
          rintro e w' ⟨rfl, rfl⟩
          go_wp2_with fail
          refine (left_any g S2 true _ HR3.out).mono ?_
          rintro e w' ⟨rfl, rfl⟩
          rw [show ((leftR S2 true : Nat) : Int) = 0 from rfl]
          go_wp2_with fail
          refine (head_any _).mono ?_
          rintro e w4 ⟨rfl, hb4⟩
          go_wp2_with fail
          go_ret
          exact ⟨rfl, HB3.out.trans (hb4.mono (Nat.le_of_lt hg3))⟩
      have hm2 : c % 3 = 2 := by omega
      have c1 := take_any g S false n wr (by unfold maxLen; omega) HR.out
      have ho := fun x t h => takeR_ok S n x t h
      generalize takeR S false n = T at *
      obtain ⟨P, S2, b2⟩ := T
      simp only at c1
      have HOK : Hid (b2 = false → S.data.toList = P.data.toList ++ S2.data.toList) := by
        intro hb
        exact ho _ _ (by rw [hb])
      have C1 := Lib.hid c1
      clear c1 ho
      go_wp2_with fail
      refine C1.out.mono ?_
      rintro e w3 ⟨rfl, ha3⟩
      have HR3 := Lib.hid ha3.1
      have hg3 : g < w3.heap.size := Nat.lt_of_lt_of_le hgw ha3.2.size
      have HB3 : Hid (Below g w w3) := below_grown HB.out ha3.2 (by omega) (Nat.le_refl _)
      clear ha3
      cases b2
      · obtain ⟨q1, q2, q3⟩ := step_facts s S P S2 A HS.out hA (HOK.out rfl)
        have hne := step_size s P S2 A q1
        obtain ⟨E, hEd⟩ : ∃ E, A + P.size = E := ⟨_, rfl⟩
        have hE : (A : Int) + (P.size : Int) = (E : Int) := by omega
        rw [hEd] at q1 q2 q3
        have HS3 := Lib.hid q3
        have t1 : (P.toList == P.toList) = true := by simp
        have t2 : decide (s.size < E) = false := by simp; omega
        have hle : E ≤ s.size := by omega
        have hAE : A ≤ E := by omega
        clear HOK q3 HS hEd
        go_wp2_with fail
        refine (isbad_any g S2 false _ HR3.out).mono ?_
        rintro e w' ⟨rfl, rfl⟩
        go_wp2_with fail
        refine (left_any g S2 false _ HR3.out).mono ?_
        rintro e w' ⟨rfl, rfl⟩
        rw [show ((leftR S2 false : Nat) : Int) = (S2.size : Int) from rfl]
        go_wp2_with fail
        go_roundw
        first
          | exact ⟨⟨j + 1, E, S2, by omega, by omega, by go_num, by go_num, q1, HS3, HR3, hg3, HB3⟩, by simp [intOf]; omega⟩
          | (case rel => exact ⟨j + 1, E, S2, by omega, by omega, by go_num, by go_num, q1, HS3, HR3, hg3, HB3⟩
             case measure => simp [intOf]; omega)
      · clear HOK HS
        go_wp2_with fail
        refine (isbad_any g S2 true _ HR3.out).mono ?_
        rintro e w' ⟨rfl, rfl⟩
        go_wp2_with fail
        refine (left_any g S2 true _ HR3.out).mono ?_
        rintro e w' ⟨rfl, rfl⟩
        rw [show ((leftR S2 true : Nat) : Int) = 0 from rfl]
        go_wp2_with fail
        refine (head_any _).mono ?_
        rintro e w4 ⟨rfl, hb4⟩
        go_wp2_with fail
        go_ret
        exact ⟨rfl, HB3.out.trans (hb4.mono (Nat.le_of_lt hg3))⟩
    · by_cases hlt : j < len
      · have dd1 : decide (j < len) = true := by simpa using hlt
        have dd2 : decide ((j : Int) < 100) = false := by simp; omega
        go_wp2_with fail
        refine (head_any wr).mono ?_
        rintro e w3 ⟨rfl, hb3⟩
        go_wp2_with fail
        go_ret
        exact ⟨rfl, HB.out.trans (hb3.mono (by omega))⟩
      · have dd1 : decide (j < len) = false := by simpa using hlt
        go_wp2_with fail
        refine (head_any wr).mono ?_
        rintro e w3 ⟨rfl, hb3⟩
        go_wp2_with fail
        go_ret
        exact ⟨rfl, HB.out.trans (hb3.mono (by omega))⟩
end Go.Proofs.Ytmmlmcanjacngab.Notch
