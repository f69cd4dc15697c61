/-
NotchBack: what was put is read as it was, with nothing left; more than 50 items, or texts of more than 3000 bytes, are let go. No condition.
-/
import Derived.Test.YtmmlmcanjacngaaNotchHead
import Derived.Test.YtmmlmcanjacngaaRecs
import Derived.Deep.QuietTactic
import Derived.BigQuiet
namespace Go.Proofs.Ytmmlmcanjacngaa.Notch
open Go.RowKit

def itemL : List Value → List UInt8
  | [.bool true, _, .string s] => encT s.data.toList
  | [.bool false, .int _ n, _] => encL n.toNat
  | _ => []
def catL (rows : List (List Value)) : List UInt8 := rows.flatMap itemL
theorem catL_take (rows : List (List Value)) (j : Nat) (r : List Value) (h : rows[j]? = some r) : catL (rows.take (j + 1)) = catL (rows.take j) ++ itemL r := by
  obtain ⟨hj, rfl⟩ := List.getElem?_eq_some_iff.1 h
  unfold catL
  rw [List.take_succ_eq_append_getElem hj, List.flatMap_append]
  simp
theorem catL_drop (rows : List (List Value)) (j : Nat) (r : List Value) (h : rows[j]? = some r) : catL (rows.drop j) = itemL r ++ catL (rows.drop (j + 1)) := by
  obtain ⟨hj, rfl⟩ := List.getElem?_eq_some_iff.1 h
  unfold catL
  rw [List.drop_eq_getElem_cons hj, List.flatMap_cons]
theorem numR_enc (s : ByteArray) (n : Nat) (r : List UInt8) (hn : n < 18446744073709551616) (h : s.data.toList = encL n ++ r) : numR s false = (n, ⟨r.toArray⟩, false) := by
  unfold numR
  rw [if_neg (by decide), h, readN_enc n hn r]
theorem textR_enc (s x : ByteArray) (r : List UInt8) (hx : x.size < 18446744073709551616) (h : s.data.toList = encT x.data.toList ++ r) : textR s false (x.size : Int) = (x, ⟨r.toArray⟩, false) := by
  have h1 : s.data.toList = encL x.size ++ (x.data.toList ++ r) := by
    rw [h, encT, size_list, List.append_assoc]
  have h2 := numR_enc s x.size _ hx h1
  have hz : (⟨(x.data.toList ++ r).toArray⟩ : ByteArray).size = x.size + r.length := by
    show (x.data.toList ++ r).toArray.size = _
    rw [List.size_toArray, List.length_append, size_list]
  unfold textR
  rw [h2]
  show (if (false = true) then _ else if (x.size : Int) < 0 ∨ (x.size : Int) < (x.size : Int) ∨ (⟨(x.data.toList ++ r).toArray⟩ : ByteArray).size < x.size then _ else _) = _
  rw [if_neg (by decide), if_neg (by omega)]
  have e1 : (ByteArray.extract ⟨(x.data.toList ++ r).toArray⟩ 0 x.size) = x := by
    rw [of_toList x _ rfl]
    refine of_toList _ _ ?_
    rw [ex_take]
    exact List.take_left' (by rw [size_list])
  have e2 : (ByteArray.extract ⟨(x.data.toList ++ r).toArray⟩ x.size (⟨(x.data.toList ++ r).toArray⟩ : ByteArray).size) = ⟨r.toArray⟩ := by
    refine of_toList _ _ ?_
    rw [ex_drop]
    exact List.drop_left' (by rw [size_list])
  exact Prod.ext e1 (Prod.ext e2 rfl)
theorem textB_size (s : ByteArray) (h : s.size ≤ 3000) : (textB s).size ≤ 3009 := by
  show (encT s.data.toList).toArray.size ≤ 3009
  have := nb_le s.size (by omega)
  rw [List.size_toArray, encT, List.length_append, encL_length, size_list]
  omega
theorem textB_list (s : ByteArray) : (textB s).data.toList = encT s.data.toList := by simp [textB]
theorem encB_list (n : Nat) : (encB [n]).data.toList = encL n := by simp [encB, encAll]
theorem app_list (a b : ByteArray) : (a ++ b).data.toList = a.data.toList ++ b.data.toList := by simp
theorem below_drewN' {B : Nat} {a w : World} (h : Below B a w) (n : Nat) : Below B a (w.drewN n) := ⟨h.os, h.tape, h.output, h.size, h.block⟩

set_option maxRecDepth 20000 in
set_option maxHeartbeats 8000000 in
theorem notchBack_walk (a : Option Addr) (len cap : Nat) (rows : List (List Value)) (w : World) (hrow : IsRecs w a len cap 3 rows)
    (hpr : ∀ r ∈ rows, ∃ (x0 : Bool) (x1 : Int) (x2 : ByteArray), r = [.bool x0, .int .u64 x1, .string x2] ∧ (Lit.int .u64 x1).wf = true ∧ x2.size ≤ maxLen) :
    Calls Try.prog 7 #[.slice a len cap] w fun e w' => e = .returned (.bool true) ∧ Below w.heap.size w w' := by
  obtain ⟨hll, hlc, hcm, hcells⟩ := hrow
  unfold maxLen at hcm
  have HC := Lib.hid hcells
  have HL := Lib.hid hll
  have HP := Lib.hid hpr
  clear hll hcells hpr
  by_cases hl : 50 < len
  · go_enter Try.func7, Try.ntmps7
    go_wp2_with fail
    refine (head_any w).mono ?_
    rintro e w1 ⟨rfl, hb1⟩
    go_wp2_with fail
    go_ret
    exact ⟨rfl, hb1⟩
  obtain ⟨g, hg⟩ : ∃ g, w.heap.size = g := ⟨_, rfl⟩
  rw [hg]
  go_enter Try.func7, Try.ntmps7
  go_wp2_with fail
  go_loopw [3, 4] (fun t i wr => ∃ (j : Nat) (T : ByteArray), j ≤ len ∧ i = .int .i64 (j : Int) ∧ t = .string T ∧ T.size ≤ j * 3010 ∧ Hid (T.data.toList = catL (rows.take j)) ∧ g ≤ wr.heap.size ∧ Hid (Below g w wr)) (fun _ i _ => len - (intOf i).toNat)
  case atStart => exact ⟨0, ByteArray.empty, by omega, rfl, rfl, by decide, rfl, by omega, Lib.hid (hg ▸ Below.refl _ _)⟩
  case round =>
    obtain ⟨j, T, hj, rfl, rfl, hT, HT, hgw, HB⟩ := hrel
    by_cases hlt : j < len
    · have dd1 : decide (j < len) = true := by simpa using hlt
      obtain ⟨bb, off, ha, hbw, hcs⟩ := HC.out (by omega)
      subst ha
      obtain ⟨r, hr⟩ : ∃ r, rows[j]? = some r := ⟨rows[j]'(by rw [HL.out]; exact hlt), List.getElem?_eq_getElem _⟩
      obtain ⟨x0, x1, x2, rfl, z1, hx2⟩ := HP.out r (List.mem_of_getElem? hr)
      have hcell0 : wr.cell? ⟨bb, off + j * 3, none⟩ = some (.bool x0) := (HB.out.cell (p := ⟨bb, off + (j * 3 + 0), none⟩) (by show bb < g; omega)).trans (hcs j _ hr 0 _ rfl)
      have hcell1 : wr.cell? ⟨bb, off + j * 3 + 1, none⟩ = some (.int .u64 x1) := (HB.out.cell (p := ⟨bb, off + (j * 3 + 1), none⟩) (by show bb < g; omega)).trans (hcs j _ hr 1 _ rfl)
      have hcell2 : wr.cell? ⟨bb, off + j * 3 + 2, none⟩ = some (.string x2) := (HB.out.cell (p := ⟨bb, off + (j * 3 + 2), none⟩) (by show bb < g; omega)).trans (hcs j _ hr 2 _ rfl)
      obtain ⟨u0, u1⟩ := bounds_u64 z1
      have HCT := Lib.hid (catL_take rows j _ hr)
      have HR0 := Lib.hid hr
      clear hr hcs z1
      unfold maxLen at hx2
      by_cases hbig : 3000 < x2.size
      · go_wp2_with fail
        refine (head_any wr).mono ?_
        rintro e w3 ⟨rfl, hb3⟩
        go_wp2_with fail
        go_ret
        exact ⟨rfl, HB.out.trans (hb3.mono hgw)⟩
      have hbig2 : x2.size ≤ 3000 := by omega
      cases x0
      · have c := fun e => put_any x1 wr u0 (by omega) e
        have hXs := encB_size x1.toNat (by omega)
        have hXl := encB_list x1.toNat
        obtain ⟨X, hX⟩ : ∃ X, encB [x1.toNat] = X := ⟨_, rfl⟩
        simp only [hX] at c hXs hXl
        obtain ⟨T2, hT2⟩ : ∃ T2, T ++ X = T2 := ⟨_, rfl⟩
        have hT2s : T2.size ≤ (j + 1) * 3010 := by rw [← hT2, ByteArray.size_append]; omega
        have HT2 : Hid (T2.data.toList = catL (rows.take (j + 1))) := by
          show _ = _
          rw [← hT2, app_list, HT.out, HCT.out, hXl]
          rfl
        have C := Lib.hid c
        clear c hX hXl
        go_wp2_with fail
        refine (C.out _).mono ?_
        rintro e w3 ⟨rfl, hb3⟩
        have HB3 : Hid (Below g w w3) := HB.out.trans (hb3.mono hgw)
        have hg3 : g ≤ w3.heap.size := Nat.le_trans hgw hb3.size
        clear hb3
        go_wp2_with fail
        go_roundw
        first
          | exact ⟨⟨j + 1, T2, by omega, by go_num, rfl, hT2s, HT2, hg3, HB3⟩, by simp [intOf]; omega⟩
          | (case rel => exact ⟨j + 1, T2, by omega, by go_num, rfl, hT2s, HT2, hg3, HB3⟩
             case measure => simp [intOf]; omega)
      · have c := putText_any x2 wr (by omega)
        have hXs := textB_size x2 hbig2
        have hXl := textB_list x2
        obtain ⟨X, hX⟩ : ∃ X, textB x2 = X := ⟨_, rfl⟩
        simp only [hX] at c hXs hXl
        obtain ⟨T2, hT2⟩ : ∃ T2, T ++ X = T2 := ⟨_, rfl⟩
        have hT2s : T2.size ≤ (j + 1) * 3010 := by rw [← hT2, ByteArray.size_append]; omega
        have HT2 : Hid (T2.data.toList = catL (rows.take (j + 1))) := by
          show _ = _
          rw [← hT2, app_list, HT.out, HCT.out, hXl]
          rfl
        have C := Lib.hid c
        clear c hX hXl
        go_wp2_with fail
        refine C.out.mono ?_
        rintro e w3 ⟨rfl, hb3⟩
        have HB3 : Hid (Below g w w3) := HB.out.trans (hb3.mono hgw)
        have hg3 : g ≤ w3.heap.size := Nat.le_trans hgw hb3.size
        clear hb3
        go_wp2_with fail
        go_roundw
        first
          | exact ⟨⟨j + 1, T2, by omega, by go_num, rfl, hT2s, HT2, hg3, HB3⟩, by simp [intOf]; omega⟩
          | (case rel => exact ⟨j + 1, T2, by omega, by go_num, rfl, hT2s, HT2, hg3, HB3⟩
             case measure => simp [intOf]; omega)
    · have dd1 : decide (j < len) = false := by simpa using hlt
      obtain rfl : j = len := by omega
      have HT0 : Hid (T.data.toList = catL rows) := by
        show _ = _
        rw [HT.out, List.take_of_length_le (by rw [HL.out]; omega)]
      have hT5 : T.size ≤ 150500 := by omega
      clear hT hj
      go_wp2_with fail
      refine (open_new T wr).mono ?_
      rintro e w1 ⟨rfl, hr1, hlt1, hb1⟩
      have R1 := Lib.hid hr1
      have HB1 : Hid (Below g w w1) := HB.out.trans (hb1.mono hgw)
      obtain ⟨q, hq⟩ : ∃ q, wr.heap.size = q := ⟨_, rfl⟩
      rw [hq] at R1 hlt1 ⊢
      have hgq : g ≤ q := by omega
      clear hr1 hb1
      go_wp2_with fail
      go_loopw [6] (fun i v => ∃ (k : Nat) (S : ByteArray), k ≤ j ∧ i = .int .i64 (k : Int) ∧ S.size ≤ 150500 ∧ Hid (S.data.toList = catL (rows.drop k)) ∧ Hid (Rdr v q S false) ∧ q < v.heap.size ∧ Hid (Below g w v)) (fun i _ => j - (intOf i).toNat)
      case atStart => exact ⟨0, T, by omega, rfl, hT5, HT0, R1, hlt1, HB1⟩
      case round =>
        rename World => v
        obtain ⟨k, S, hk, rfl, hS, HS, HR, hqv, HV⟩ := hrel
        by_cases hlt : k < j
        · have dd2 : decide (k < j) = true := by simpa using hlt
          obtain ⟨bb, off, ha, hbw, hcs⟩ := HC.out (by omega)
          subst ha
          obtain ⟨r, hr⟩ : ∃ r, rows[k]? = some r := ⟨rows[k]'(by rw [HL.out]; exact hlt), List.getElem?_eq_getElem _⟩
          obtain ⟨x0, x1, x2, rfl, z1, hx2⟩ := HP.out r (List.mem_of_getElem? hr)
          have hcell0 : v.cell? ⟨bb, off + k * 3, none⟩ = some (.bool x0) := (HV.out.cell (p := ⟨bb, off + (k * 3 + 0), none⟩) (by show bb < g; omega)).trans (hcs k _ hr 0 _ rfl)
          have hcell1 : v.cell? ⟨bb, off + k * 3 + 1, none⟩ = some (.int .u64 x1) := (HV.out.cell (p := ⟨bb, off + (k * 3 + 1), none⟩) (by show bb < g; omega)).trans (hcs k _ hr 1 _ rfl)
          have hcell2 : v.cell? ⟨bb, off + k * 3 + 2, none⟩ = some (.string x2) := (HV.out.cell (p := ⟨bb, off + (k * 3 + 2), none⟩) (by show bb < g; omega)).trans (hcs k _ hr 2 _ rfl)
          have HW1 : Hid (w.cell? ⟨bb, off + k * 3 + 1, none⟩ = some (.int .u64 x1)) := hcs k _ hr 1 _ rfl
          have HW2 : Hid (w.cell? ⟨bb, off + k * 3 + 2, none⟩ = some (.string x2)) := hcs k _ hr 2 _ rfl
          obtain ⟨u0, u1⟩ := bounds_u64 z1
          unfold maxLen at hx2
          have hSL := HS.out
          rw [catL_drop rows k _ hr] at hSL
          obtain ⟨S2, hS2⟩ : ∃ S2 : ByteArray, S2 = ⟨(catL (rows.drop (k + 1))).toArray⟩ := ⟨_, rfl⟩
          have HS2 : Hid (S2.data.toList = catL (rows.drop (k + 1))) := by show _ = _; rw [hS2]
          have hS2s : S2.size ≤ 150500 := by
            have h1 := congrArg List.length hSL
            rw [size_list, List.length_append, ← HS2.out, size_list] at h1
            omega
          have HRd : Hid (Rdr v.drew q S false) := HR
          have HVd := Lib.hid HV.out.drew
          have hgd : Hid (g ≤ v.drew.heap.size) := by show g ≤ v.heap.size; omega
          have hqd : Hid (q < v.drew.heap.size) := hqv
          clear hr hcs z1
          cases x0
          · have e1 := numR_enc S x1.toNat _ (by omega) hSL
            rw [← hS2] at e1
            have c := fun W hW => num_any q S false W (by unfold maxLen; omega) hW
            rw [e1] at c
            have hx : ((x1.toNat : Nat) : Int) = x1 := Int.toNat_of_nonneg u0
            simp only [hx] at c
            have C := Lib.hid c
            clear c e1 hSL hS2 hx
            go_wp2_with fail
            go_region_with ((go_at_call 19; refine (C.out v.drew HRd.out).mono ?_; rintro e w3 ⟨rfl, ha3⟩; have HR3 := Lib.hid ha3.1; have hq3 : q < w3.heap.size := Nat.lt_of_lt_of_le hqd.out ha3.2.size; have HV3 : Hid (Below g w w3) := below_grown HVd.out ha3.2 hgd.out hgq; have hcell3 : w3.cell? ⟨bb, off + k * 3 + 1, none⟩ = some (.int .u64 x1) := (HV3.out.cell (p := ⟨bb, off + k * 3 + 1, none⟩) (by show bb < g; omega)).trans HW1.out; clear ha3))
            all_goals
              go_wp2_with fail
              go_roundw
              first
                | exact ⟨⟨k + 1, S2, by omega, by go_num, hS2s, HS2, HR3, hq3, HV3⟩, by simp [intOf]; omega⟩
                | (case rel => exact ⟨k + 1, S2, by omega, by go_num, hS2s, HS2, HR3, hq3, HV3⟩
                   case measure => simp [intOf]; omega)
          · have e1 := textR_enc S x2 _ (by omega) hSL
            rw [← hS2] at e1
            have c := fun W hW => text_any q S false (x2.size : Int) W (by unfold maxLen; omega) (by omega) (by omega) hW
            rw [e1] at c
            have C := Lib.hid c
            clear c e1 hSL hS2
            go_wp2_with fail
            go_region_with ((go_at_call 21; refine (C.out v.drew HRd.out).mono ?_; rintro e w3 ⟨rfl, ha3⟩; have HR3 := Lib.hid ha3.1; have hq3 : q < w3.heap.size := Nat.lt_of_lt_of_le hqd.out ha3.2.size; have HV3 : Hid (Below g w w3) := below_grown HVd.out ha3.2 hgd.out hgq; have hcell3 : w3.cell? ⟨bb, off + k * 3 + 2, none⟩ = some (.string x2) := (HV3.out.cell (p := ⟨bb, off + k * 3 + 2, none⟩) (by show bb < g; omega)).trans HW2.out; clear ha3))
            all_goals
              go_wp2_with fail
              go_roundw
              first
                | exact ⟨⟨k + 1, S2, by omega, by go_num, hS2s, HS2, HR3, hq3, HV3⟩, by simp [intOf]; omega⟩
                | (case rel => exact ⟨k + 1, S2, by omega, by go_num, hS2s, HS2, HR3, hq3, HV3⟩
                   case measure => simp [intOf]; omega)
        · have dd2 : decide (k < j) = false := by simpa using hlt
          obtain rfl : k = j := by omega
          have hSe : S = ByteArray.empty := by
            have h1 := HS.out
            rw [List.drop_of_length_le (by rw [HL.out]; omega)] at h1
            exact of_toList S _ h1
          subst hSe
          clear hk
          go_wp2_with fail
          refine (isbad_any q _ false v HR.out).mono ?_
          rintro e w' ⟨rfl, rfl⟩
          go_wp2_with fail
          refine (left_any q _ false v HR.out).mono ?_
          rintro e w' ⟨rfl, rfl⟩
          rw [show ((leftR ByteArray.empty false : Nat) : Int) = 0 from rfl]
          go_wp2_with fail
          refine (head_any v).mono ?_
          rintro e w3 ⟨rfl, hb3⟩
          go_wp2_with fail
          go_ret
          exact ⟨rfl, HV.out.trans (hb3.mono (by omega))⟩
end Go.Proofs.Ytmmlmcanjacngaa.Notch
