/-
Contracts of store.place, told, PutDraw.
-/
import Derived.Test.YtpnllalefpkcjaaGreatDoorStoreMay
import Derived.Test.YtpnllalefpkcjaaGreatDoorStorePut
import Derived.Test.YtpnllalefpkcjaaGreatDoorShelf
namespace Go.Proofs.YtpnllalefpkcjaaGreatDoor.Store
open Go.RowKit Nat_

def txtB (l : List UInt8) : ByteArray := ⟨l.toArray⟩
/-- A place's bytes. -/
def placeL (zs : List (Bool × Value × Nat)) : List UInt8 := Notch.encL zs.length ++ zs.flatMap fun z => Notch.encT (zdecs z.1 z.2.2)
theorem zdecs_len (b : Bool) (n : Nat) (h : nl n ≤ 64) : (zdecs b n).length ≤ 1290 := by
  have h1 : n < 18446744073709551616 ^ 64 := (limbs_len 64 n).1 h
  have h2 : n < 10 ^ (20 * 64) := Nat.lt_of_lt_of_le h1 (pow_ten 64)
  have h3 : (decs n).length ≤ 20 * 64 := (decs_len (20 * 64) n (by decide)).2 h2
  unfold zdecs
  split
  · simp only [List.length_cons]; omega
  · omega
set_option maxRecDepth 100000 in
set_option maxHeartbeats 2000000 in
theorem place_any (a : Option Addr) (len cap : Nat) (zs : List (Bool × Value × Nat)) (w : World) (h : Zs w a len zs) (hlen : len ≤ 200) (hz : ∀ z ∈ zs, nl z.2.2 ≤ 64) :
    Calls Tryz.prog 21 #[.slice a len cap] w fun e w' => e = .returned (.string (txtB (placeL zs))) ∧ Below w.heap.size w w' := by
  have hnum := Notch.put_any (len : Int) w (by omega) (by omega) 26
  rw [Int.toNat_natCast] at hnum
  have hwk : IntKind.u64.wrap (len : Int) = (len : Int) := by rw [IntKind.wrap_u64]; omega
  have hl := h.1
  have hsz := Notch.encB_size len (by omega)
  have hx0 : (Notch.encB [len]).data.toList = Notch.encL len := by simp [Notch.encB, Notch.encAll]
  generalize Notch.encB [len] = x0 at *
  have HN := Lib.hid hnum
  clear hnum
  go_enter Tryz.func21, Tryz.ntmps21
  go_wp2_with fail
  refine HN.out.mono ?_
  rintro e w1 ⟨rfl, hb1⟩
  go_wp2_with fail
  go_loopw [3, 13] (fun t i wr => ∃ (j : Nat) (S : ByteArray), j ≤ len ∧ i = .int .i64 (j : Int) ∧ t = .string S ∧ S.size ≤ 9 + 1310 * j ∧ Hid (S.data.toList = Notch.encL len ++ (zs.take j).flatMap fun z => Notch.encT (zdecs z.1 z.2.2)) ∧ Below w.heap.size w wr) (fun _ i _ => len - (intOf i).toNat)
  case atStart => exact ⟨0, x0, Nat.zero_le _, rfl, rfl, by omega, by show _ = _; rw [hx0]; simp, hb1⟩
  case round =>
    obtain ⟨j, S, hj, rfl, rfl, hS, HS, hB⟩ := hrel
    by_cases hlt : j < len
    · have hw := h.below hB
      have hjz : j < zs.length := by omega
      obtain ⟨b, off, rfl, hbw⟩ : ∃ b off, a = some ⟨b, off, none⟩ ∧ ∀ i z, zs[i]? = some z → wr.cell? ⟨b, off + i * 2, none⟩ = some (.bool z.1) ∧ wr.cell? ⟨b, off + i * 2 + 1, none⟩ = some z.2.1 := by
        obtain ⟨b, off, ha, -, hc⟩ := hw.2.2 (by omega)
        exact ⟨b, off, ha, hc⟩
      obtain ⟨c0, c1⟩ := hbw j _ (List.getElem?_eq_getElem hjz)
      have hnm := hw.2.1 _ (List.getElem_mem hjz)
      have h64 := hz _ (List.getElem_mem hjz)
      have e1 : zs.take (j + 1) = zs.take j ++ [zs[j]] := List.take_succ_eq_append_getElem hjz
      generalize zs[j] = z at *
      obtain ⟨zb, zm, zn⟩ := z
      simp only [] at c0 c1 hnm h64
      have hzl := zdecs_len zb zn h64
      have hLim : zn < Lim := (nl_iff zn).1 (by omega)
      obtain ⟨ma, ml, mc, rfl, -, -, -⟩ := hnm.slice
      have hal := (Below.refl wr.heap.size wr).alloc (Nat.le_refl _) (.cells #[.bool zb, .slice ma ml mc] 47)
      have htx := ztext_any zb (.slice ma ml mc) zn _ (hnm.below hal) hLim
      obtain ⟨T, hT⟩ : ∃ T : ByteArray, T = ⟨(zdecs zb zn).toArray⟩ := ⟨_, rfl⟩
      rw [← hT] at htx
      have hTs : T.size ≤ 1290 := by rw [hT]; show (zdecs zb zn).toArray.size ≤ _; rw [List.size_toArray]; exact hzl
      have hTl : T.data.toList = zdecs zb zn := by rw [hT]
      have HTX := Lib.hid htx
      have HTL := Lib.hid hTl
      have HE := Lib.hid e1
      have hts := textB_size T (by omega)
      have hput := Notch.putText_any T
      have hpl : (Notch.textB T).data.toList = Notch.encT (zdecs zb zn) := by
        unfold Notch.textB
        rw [hTl]
      have HPL := Lib.hid hpl
      generalize Notch.textB T = U at *
      have HPUT := Lib.hid hput
      clear htx hTl hT e1 hbw hw hzl hnm hput hpl
      go_wp2_with fail
      refine HTX.out.mono ?_
      rintro e w2 ⟨rfl, hb2⟩
      go_wp2_with fail
      refine (HPUT.out w2 (by omega)).mono ?_
      rintro e w3 ⟨rfl, hb3⟩
      have hB3 : Below w.heap.size w w3 := (hB.trans ((hal.trans (hb2.mono (by simp))).mono hB.size)).trans (hb3.mono (by have := hB.size; have := hb2.size; simp at this; omega))
      have hsum : (S ++ U).size = S.size + U.size := ByteArray.size_append
      go_wp2_with fail
      go_roundw
      case rel =>
        refine ⟨j + 1, S ++ U, by omega, by simp, rfl, by omega, ?_, hB3⟩
        show _ = _
        rw [HE.out, List.flatMap_append, ← List.append_assoc, ← HS.out, ByteArray.toList_data_append, HPL.out]
        simp
      case measure => simp [intOf]; omega
    · obtain rfl : j = len := by omega
      have hS2 : S = txtB (placeL zs) := by
        apply ByteArray.ext
        apply Array.ext'
        rw [HS.out, List.take_of_length_le (by omega), ← hl]
        rfl
      have HS2 := Lib.hid hS2
      clear hS2
      go_wp2_with fail
      go_ret
      rw [← HS2.out]
      exact ⟨rfl, hB⟩
end Go.Proofs.YtpnllalefpkcjaaGreatDoor.Store
