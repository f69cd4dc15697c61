/-
Contracts of the reference's may and place.
-/
import Derived.Test.YtpnllalefpkcjaaGreatDoorRefZint
import Derived.Test.YtpnllalefpkcjaaGreatDoorStorePlace
namespace Go.Proofs.YtpnllalefpkcjaaGreatDoor.Store
open Go.RowKit Nat_

set_option maxRecDepth 100000 in
set_option maxHeartbeats 2000000 in
theorem rmay_any (a : Option Addr) (len cap : Nat) (zs : List (Bool × Value × Nat)) (w : World) (h : Zs w a len zs) (hlen : len ≤ 1000000) :
    Calls Tryz.prog 22 #[.slice a len cap] w fun e w' => e = .returned (.bool (mayB zs)) ∧ Below w.heap.size w w' := by
  have H := Lib.hid h
  have hl := Lib.hid h.1
  clear h
  go_enter Tryz.func22, Tryz.ntmps22
  go_wp2_with fail
  go_loopw [3] (fun i wr => ∃ j : Nat, j ≤ len ∧ i = .int .i64 (j : Int) ∧ Hid (∀ z ∈ zs.take j, nl z.2.2 ≤ 64) ∧ Hid (Below w.heap.size w wr)) (fun i _ => len - (intOf i).toNat)
  case atStart => exact ⟨0, Nat.zero_le _, rfl, Lib.hid (by intro z hz; simp at hz), Lib.hid (Below.refl _ _)⟩
  case round =>
    obtain ⟨j, hj, rfl, HN, HB⟩ := hrel
    by_cases hlt : j < len
    · have dd : decide (j < len) = true := decide_eq_true hlt
      have hw := H.out.below HB.out
      have hjz : j < zs.length := by rw [hl.out]; exact hlt
      obtain ⟨b, off, rfl, hbw, hc⟩ := hw.2.2 (by omega)
      obtain ⟨c0, c1⟩ := hc j _ (List.getElem?_eq_getElem hjz)
      have hnm := hw.2.1 _ (List.getElem_mem hjz)
      have e1 : zs.take (j + 1) = zs.take j ++ [zs[j]] := List.take_succ_eq_append_getElem hjz
      have e2 : zs[j] ∈ zs := List.getElem_mem hjz
      generalize zs[j] = z at *
      obtain ⟨zb, zm, zn⟩ := z
      simp only [] at c0 c1 hnm
      have cn := rnorm_any zm zn wr hnm
      have CN := Lib.hid cn
      have HE := Lib.hid (And.intro e1 e2)
      have hns : nl zn ≤ 64 ∨ 64 < nl zn := by omega
      obtain ⟨k, hk⟩ : ∃ k, nl zn = k := ⟨_, rfl⟩
      rw [hk] at hns
      have HK := Lib.hid hk
      obtain ⟨ma, ml, mc, rfl, -, -, -⟩ := hnm.slice
      clear cn e1 e2 hc hw hnm hjz hk c0
      rcases hns with h64 | h64
      · have HN2 := Lib.hid (show ∀ z ∈ zs.take (j + 1), nl z.2.2 ≤ 64 from fun z hz => by
          rw [HE.out.1] at hz
          rcases List.mem_append.1 hz with hz | hz
          · exact HN.out z hz
          · obtain rfl : z = _ := by simpa using hz
            show nl zn ≤ 64
            rw [HK.out]; exact h64)
        go_wp2_with fail
        refine CN.out.mono ?_
        rintro e w2 ⟨a2, c2, rfl, hn2, hb2⟩
        rw [HK.out]
        have HB2 := Lib.hid (bel_tr HB.out hb2)
        clear hn2 hb2
        go_wp2_with fail
        go_roundw
        first
          | exact ⟨⟨j + 1, by omega, by go_num, HN2, HB2⟩, by simp [intOf]; omega⟩
          | (case rel => exact ⟨j + 1, by omega, by go_num, HN2, HB2⟩
             case measure => simp [intOf]; omega)
      · have HF := Lib.hid (show mayB zs = false by
          unfold mayB
          rw [Bool.and_eq_false_iff]
          right
          rw [List.all_eq_false]
          refine ⟨_, HE.out.2, ?_⟩
          show ¬ decide (nl zn ≤ 64) = true
          rw [HK.out]
          simpa using h64)
        go_wp2_with fail
        refine CN.out.mono ?_
        rintro e w2 ⟨a2, c2, rfl, hn2, hb2⟩
        rw [HK.out]
        go_wp2_with fail
        go_ret
        exact ⟨ret_bool HF.out.symm, bel_tr HB.out hb2⟩
    · have dd : decide (j < len) = false := decide_eq_false hlt
      have HF := Lib.hid (show mayB zs = decide (len ≤ 200) by
        unfold mayB
        rw [hl.out]
        have : zs.all (fun z => decide (nl z.2.2 ≤ 64)) = true := by
          rw [List.all_eq_true]
          intro z hz
          have := HN.out z (by rw [List.take_of_length_le (by rw [hl.out]; omega)]; exact hz)
          simpa using this
        rw [this, Bool.and_true])
      go_wp2_with fail
      go_ret
      refine ⟨ret_bool ?_, HB.out⟩
      rw [HF.out, decide_eq_decide]
      omega
theorem nl_64 {n : Nat} (h : nl n ≤ 64) : n < 4294967296 ^ 128 := by
  have h1 : n < 18446744073709551616 ^ 64 := (limbs_len 64 n).1 h
  rw [pow64] at h1
  exact h1
set_option maxRecDepth 100000 in
set_option maxHeartbeats 2000000 in
theorem rplace_any (a : Option Addr) (len cap : Nat) (zs : List (Bool × Value × Nat)) (w : World) (h : Zs w a len zs) (hlen : len ≤ 200) (hz : ∀ z ∈ zs, nl z.2.2 ≤ 64) :
    Calls Tryz.prog 24 #[.slice a len cap] w fun e w' => e = .returned (.string (txtB (placeL zs))) ∧ Below w.heap.size w w' := by
  have hnum := Notch.refNum_any (len : Int) w (by omega) (by omega)
  rw [Int.toNat_natCast] at hnum
  have hwk : IntKind.u64.wrap (len : Int) = (len : Int) := by rw [IntKind.wrap_u64]; omega
  have hl := h.1
  have hsz : (Notch.numB len).size ≤ 9 := by
    rw [Notch.numB_eq]; exact Notch.encB_size len (by omega)
  have hx0 : (Notch.numB len).data.toList = Notch.encL len := by simp [Notch.numB]
  generalize Notch.numB len = x0 at *
  have HN := Lib.hid hnum
  have H := Lib.hid h
  have HZ := Lib.hid hz
  have HL := Lib.hid hl
  have HX0 := Lib.hid hx0
  clear hnum h hz hl hx0
  go_enter Tryz.func24, Tryz.ntmps24
  go_wp2_with fail
  refine HN.out.mono ?_
  rintro e w1 ⟨rfl, hb1⟩
  have HB1 := Lib.hid hb1
  clear hb1
  go_wp2_with fail
  go_loopw [3, 4] (fun t i wr => ∃ (j : Nat) (S : ByteArray), j ≤ len ∧ i = .int .i64 (j : Int) ∧ t = .string S ∧ S.size ≤ 9 + 1310 * j ∧ Hid (S.data.toList = Notch.encL len ++ (zs.take j).flatMap fun z => Notch.encT (zdecs z.1 z.2.2)) ∧ Hid (Below w.heap.size w wr)) (fun _ i _ => len - (intOf i).toNat)
  case atStart => exact ⟨0, x0, Nat.zero_le _, rfl, rfl, by omega, by show _ = _; rw [HX0.out]; simp, HB1⟩
  case round =>
    obtain ⟨j, S, hj, rfl, rfl, hS, HS, HB⟩ := hrel
    by_cases hlt : j < len
    · have dd : decide (j < len) = true := decide_eq_true hlt
      have hw := H.out.below HB.out
      have hjz : j < zs.length := by rw [HL.out]; exact hlt
      obtain ⟨b, off, rfl, hbw, hc⟩ := hw.2.2 (by omega)
      obtain ⟨c0, c1⟩ := hc j _ (List.getElem?_eq_getElem hjz)
      have hnm := hw.2.1 _ (List.getElem_mem hjz)
      have h64 := HZ.out _ (List.getElem_mem hjz)
      have e1 : zs.take (j + 1) = zs.take j ++ [zs[j]] := List.take_succ_eq_append_getElem hjz
      generalize zs[j] = z at *
      obtain ⟨zb, zm, zn⟩ := z
      simp only [] at c0 c1 hnm h64
      have hzl := zdecs_len zb zn h64
      have htx := rztext_any zb zm zn 128 wr hnm (by decide) (by decide) (nl_64 h64)
      obtain ⟨ma, ml, mc, rfl, -, -, -⟩ := hnm.slice
      obtain ⟨T, hT⟩ : ∃ T : ByteArray, T = ⟨(zdecs zb zn).toArray⟩ := ⟨_, rfl⟩
      rw [← hT] at htx
      have hTs : T.size ≤ 1290 := by rw [hT]; show (zdecs zb zn).toArray.size ≤ _; rw [List.size_toArray]; exact hzl
      have hTl : T.data.toList = zdecs zb zn := by rw [hT]
      have HTX := Lib.hid htx
      have HE := Lib.hid e1
      have hts := textB_size T (by omega)
      have hput := Notch.refText_any T
      have hpl : (Notch.textB T).data.toList = Notch.encT (zdecs zb zn) := by
        unfold Notch.textB
        rw [hTl]
      have HPL := Lib.hid hpl
      generalize Notch.textB T = U at *
      have HPUT := Lib.hid hput
      clear htx hTl hT e1 hbw hw hzl hnm hput hpl hc
      go_wp2_with fail
      refine HTX.out.mono ?_
      rintro e w2 ⟨rfl, hb2⟩
      have hB2 := bel_tr HB.out hb2
      go_wp2_with fail
      refine (HPUT.out w2 (by omega)).mono ?_
      rintro e w3 ⟨rfl, hb3⟩
      have HB3 := Lib.hid (bel_tr hB2 hb3)
      have hsum : (S ++ U).size = S.size + U.size := ByteArray.size_append
      have hsz2 : (S ++ U).size ≤ 9 + 1310 * (j + 1) := by omega
      have HS2 : Hid ((S ++ U).data.toList = Notch.encL len ++ (zs.take (j + 1)).flatMap fun z => Notch.encT (zdecs z.1 z.2.2)) := by
        show _ = _
        rw [HE.out, List.flatMap_append, ← List.append_assoc, ← HS.out, ByteArray.toList_data_append, HPL.out]
        simp
      clear hB2 hb2 hb3
      go_wp2_with fail
      go_roundw
      first
        | exact ⟨⟨j + 1, S ++ U, by omega, by go_num, rfl, hsz2, HS2, HB3⟩, by simp [intOf]; omega⟩
        | (case rel => exact ⟨j + 1, S ++ U, by omega, by go_num, rfl, hsz2, HS2, HB3⟩
           case measure => simp [intOf]; omega)
    · have dd : decide (j < len) = false := decide_eq_false hlt
      have hS2 : S = txtB (placeL zs) := by
        apply ByteArray.ext
        apply Array.ext'
        rw [HS.out, List.take_of_length_le (by rw [HL.out]; omega)]
        unfold placeL txtB
        rw [HL.out]
      have HS2 := Lib.hid hS2
      clear hS2
      go_wp2_with fail
      go_ret
      rw [← HS2.out]
      exact ⟨rfl, HB.out⟩
end Go.Proofs.YtpnllalefpkcjaaGreatDoor.Store
