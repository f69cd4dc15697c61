/-
Contracts of store.may: whether a place may be kept.
-/
import Derived.Test.YtpnllalefpkcjaaGreatDoorZint
import Derived.Test.YtpnllalefpkcjaaGreatDoorMemA
namespace Go.Proofs.YtpnllalefpkcjaaGreatDoor.Store
open Go.RowKit Nat_

/-- A slice of integers: sign, slice of limbs, number. -/
def Zs (w : World) (a : Option Addr) (len : Nat) (zs : List (Bool × Value × Nat)) : Prop :=
  zs.length = len ∧ (∀ z ∈ zs, Nm w z.2.1 z.2.2) ∧
    (0 < len → ∃ b off, a = some ⟨b, off, none⟩ ∧ b < w.heap.size ∧ ∀ i z, zs[i]? = some z → w.cell? ⟨b, off + i * 2, none⟩ = some (.bool z.1) ∧ w.cell? ⟨b, off + i * 2 + 1, none⟩ = some z.2.1)
theorem Zs.below {w w' : World} {a : Option Addr} {len : Nat} {zs : List (Bool × Value × Nat)} (h : Zs w a len zs) (hb : Below w.heap.size w w') : Zs w' a len zs := by
  refine ⟨h.1, fun z hz => (h.2.1 z hz).below hb, fun h0 => ?_⟩
  obtain ⟨b, off, ha, hbw, hc⟩ := h.2.2 h0
  exact ⟨b, off, ha, Nat.lt_of_lt_of_le hbw hb.size, fun i z hi => ⟨(hb.cell (p := ⟨b, off + i * 2, none⟩) hbw).trans (hc i z hi).1, (hb.cell (p := ⟨b, off + i * 2 + 1, none⟩) hbw).trans (hc i z hi).2⟩⟩
set_option maxHeartbeats 1000000 in
theorem mayf_any (b : Bool) (m : Value) (n : Nat) (w : World) (h : Nm w m n) :
    Calls Tryz.prog 41 #[.agg #[.bool b, m]] w fun e w' => e = .returned (.bool (decide (64 < nl n))) ∧ Below w.heap.size w w' := by
  have h0 := h
  obtain ⟨a, len, cap, rfl, -, -, -⟩ := h.slice
  have hal := (Below.refl w.heap.size w).alloc (Nat.le_refl _) (.cells #[.bool b, .slice a len cap] 47)
  have hi := nl_iff n
  go_enter Tryz.func41, Tryz.ntmps41
  go_wp2_with fail
  refine (norm_any _ n _ (h0.below hal)).mono ?_
  rintro e w1 ⟨⟨hlt, a2, c2, rfl, hn⟩ | ⟨hge, rfl⟩, hb⟩
  · have hns := hn.size
    clear hi hlt
    go_wp2
    go_ret
    exact ⟨ret_bool (by rw [decide_eq_decide]; omega), hal.trans (hb.mono (by simp))⟩
  · have hlt : 64 < nl n := by omega
    clear hi hge
    go_wp2
    go_ret
    exact ⟨ret_bool (decide_eq_true hlt).symm, hal.trans (hb.mono (by simp))⟩
set_option maxHeartbeats 2000000 in
theorem indexz_any (a : Option Addr) (len cap : Nat) (zs : List (Bool × Value × Nat)) (w : World) (h : Zs w a len zs) (hlen : len ≤ 1000000) :
    Calls Tryz.prog 62 #[.slice a len cap, .func (.func 41) #[] #[]] w fun e w' =>
      ∃ k : Int, e = .returned (.int .i64 k) ∧ (0 ≤ k ↔ ∃ z ∈ zs, 64 < nl z.2.2) ∧ Below w.heap.size w w' := by
  go_enter Tryz.func62, Tryz.ntmps62
  go_wp2
  go_loopw [8] (fun i wr => ∃ j : Nat, j ≤ len ∧ i = .int .i64 (j : Int) ∧ Hid (∀ z ∈ zs.take j, ¬ 64 < nl z.2.2) ∧ Below w.heap.size w wr) (fun i _ => len - (intOf i).toNat)
  case atStart => exact ⟨0, Nat.zero_le _, rfl, by intro n hn; simp at hn, Below.refl _ _⟩
  case round =>
    obtain ⟨j, hj, rfl, HN, hB⟩ := hrel
    have hw := h.below hB
    have hzl := h.1
    by_cases hlt : j < len
    · have hjz : j < zs.length := by omega
      obtain ⟨b, off, rfl, hbw, hc⟩ := hw.2.2 (by omega)
      obtain ⟨c0, c1⟩ := hc j _ (List.getElem?_eq_getElem hjz)
      have hnm := hw.2.1 _ (List.getElem_mem hjz)
      have e1 : zs.take (j + 1) = zs.take j ++ [zs[j]] := List.take_succ_eq_append_getElem hjz
      have e2 : zs[j] ∈ zs := List.getElem_mem hjz
      generalize zs[j] = z at *
      obtain ⟨zb, zm, zn⟩ := z
      simp only [] at c0 c1 hnm
      have hcall := mayf_any zb zm zn wr hnm
      obtain ⟨ma, ml, mc, rfl, -, -, -⟩ := hnm.slice
      have HC := Lib.hid hcall
      have HE := Lib.hid (And.intro e1 e2)
      clear hcall e1 e2 hc hw
      go_wp2_with fail
      refine HC.out.mono ?_
      rintro e w' ⟨rfl, hb⟩
      have hB' := hB.trans (hb.mono hB.size)
      by_cases hL : 64 < nl zn
      · rw [decide_eq_true hL]
        have HL := Lib.hid hL
        clear hL
        go_wp2
        go_ret
        exact ⟨_, rfl, ⟨fun _ => ⟨(zb, .slice ma ml mc, zn), HE.out.2, HL.out⟩, fun _ => by omega⟩, hB'⟩
      · rw [decide_eq_false hL]
        have HL := Lib.hid hL
        clear hL
        go_wp2
        go_round
        case rel =>
          refine ⟨j + 1, by omega, by simp, ?_, hB'⟩
          intro m hm
          rw [HE.out.1] at hm
          rcases List.mem_append.1 hm with hm | hm
          · exact HN m hm
          · have : m = (zb, .slice ma ml mc, zn) := by simpa using hm
            rw [this]
            exact HL.out
        case measure => simp [intOf]; omega
    · obtain rfl : j = len := by omega
      go_wp2
      go_ret
      refine ⟨_, rfl, ⟨fun h => absurd h (by decide), ?_⟩, hB⟩
      rintro ⟨z, hz, hd⟩
      exact absurd hd (HN z (by rw [List.take_of_length_le (by omega)]; exact hz))
theorem containsz_any (a : Option Addr) (len cap : Nat) (zs : List (Bool × Value × Nat)) (w : World) (h : Zs w a len zs) (hlen : len ≤ 1000000) :
    Calls Tryz.prog 40 #[.slice a len cap, .func (.func 41) #[] #[]] w fun e w' =>
      ((e = .returned (.bool true) ∧ ∃ z ∈ zs, 64 < nl z.2.2) ∨ (e = .returned (.bool false) ∧ ∀ z ∈ zs, nl z.2.2 ≤ 64)) ∧ Below w.heap.size w w' := by
  go_enter Tryz.func40, Tryz.ntmps40
  go_wp2_with fail
  refine (indexz_any a len cap zs _ h hlen).mono ?_
  rintro e w' ⟨k, rfl, hk0, hb⟩
  have HK := Lib.hid hk0
  clear hk0
  go_wp2
  go_ret
  refine ⟨?_, hb⟩
  have hk := HK.out
  clear HK
  by_cases h0 : 0 ≤ k
  · exact .inl ⟨ret_bool (decide_eq_true h0), hk.1 h0⟩
  · refine .inr ⟨ret_bool (decide_eq_false h0), fun z hz => ?_⟩
    rcases Nat.lt_or_ge 64 (nl z.2.2) with h1 | h1
    · exact absurd (hk.2 ⟨z, hz, h1⟩) h0
    · exact h1
/-- May a place of these numbers be kept? -/
def mayB (zs : List (Bool × Value × Nat)) : Bool := decide (zs.length ≤ 200) && zs.all fun z => decide (nl z.2.2 ≤ 64)
theorem may_any (a : Option Addr) (len cap : Nat) (zs : List (Bool × Value × Nat)) (w : World) (h : Zs w a len zs) (hlen : len ≤ 1000000) :
    Calls Tryz.prog 18 #[.slice a len cap] w fun e w' => e = .returned (.bool (mayB zs)) ∧ Below w.heap.size w w' := by
  have hl := h.1
  by_cases h2 : len ≤ 200
  · go_enter Tryz.func18, Tryz.ntmps18
    go_wp2_with fail
    refine (containsz_any a len cap zs _ h hlen).mono ?_
    rintro e w' ⟨⟨rfl, z, hz, h3⟩ | ⟨rfl, h3⟩, hb⟩
    · have hm : mayB zs = false := by
        unfold mayB
        rw [Bool.and_eq_false_iff]
        right
        rw [List.all_eq_false]
        exact ⟨z, hz, by simpa using h3⟩
      have HM := Lib.hid hm
      clear h3 hm
      go_wp2
      go_ret
      rw [HM.out]
      exact ⟨rfl, hb⟩
    · have hm : mayB zs = true := by
        unfold mayB
        rw [hl, decide_eq_true h2, Bool.true_and, List.all_eq_true]
        exact fun z hz => decide_eq_true (h3 z hz)
      have HM := Lib.hid hm
      clear h3 hm
      go_wp2
      go_ret
      rw [HM.out]
      exact ⟨rfl, hb⟩
  · have hm : mayB zs = false := by
      unfold mayB
      rw [hl, decide_eq_false h2, Bool.false_and]
    rw [hm]
    go_enter Tryz.func18, Tryz.ntmps18
    go_wp2_with fail
    go_ret
    exact ⟨rfl, Below.refl _ _⟩
end Go.Proofs.YtpnllalefpkcjaaGreatDoor.Store
