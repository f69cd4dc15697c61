/-
NotchReads: a reader answers the document's, call by call, of any text; texts of more than 3000 bytes are let go. No condition.
-/
import Derived.Test.YtmmlmcanjacngaaNotchRefText
import Derived.Test.YtmmlmcanjacngaaNotchHead
import Derived.Test.YtmmlmcanjacngaaRecs
import Derived.Deep.QuietTactic
import Derived.BigQuiet
namespace Go.Proofs.Ytmmlmcanjacngaa.Notch
open Go.RowKit

theorem takeR_inv (s : ByteArray) (bad : Bool) (n : Int) (h : bad = true → s = ByteArray.empty) : ((takeR s bad n).2.2 = true → (takeR s bad n).2.1 = ByteArray.empty) ∧ (takeR s bad n).2.1.size ≤ s.size := by
  cases bad
  · unfold takeR
    rw [if_neg (by decide)]
    split
    · exact ⟨fun _ => rfl, Nat.zero_le _⟩
    · exact ⟨fun h => absurd h (by simp), by show (s.extract _ _).size ≤ _; rw [ByteArray.size_extract]; omega⟩
  · rw [h rfl]
    exact ⟨fun _ => rfl, Nat.le_refl _⟩
theorem numR_inv (s : ByteArray) (bad : Bool) (h : bad = true → s = ByteArray.empty) : ((numR s bad).2.2 = true → (numR s bad).2.1 = ByteArray.empty) ∧ (numR s bad).2.1.size ≤ s.size := ⟨textR_empty_inv s bad h, (numR_bd s bad).2⟩
theorem textR_inv (s : ByteArray) (bad : Bool) (n : Int) (h : bad = true → s = ByteArray.empty) : ((textR s bad n).2.2 = true → (textR s bad n).2.1 = ByteArray.empty) ∧ (textR s bad n).2.1.size ≤ s.size := by
  obtain ⟨h1, h2⟩ := numR_inv s bad h
  unfold textR
  split
  · rename_i hb
    exact ⟨fun _ => h1 hb, h2⟩
  · split
    · exact ⟨fun _ => rfl, Nat.zero_le _⟩
    · exact ⟨fun h => absurd h (by simp), by show (ByteArray.extract _ _ _).size ≤ _; rw [ByteArray.size_extract]; omega⟩
theorem leftR_inv (s : ByteArray) (bad : Bool) (h : bad = true → s = ByteArray.empty) : leftR s bad = s.size := by
  cases bad
  · rfl
  · rw [h rfl]; rfl
theorem left_q2 (g : Nat) (s : ByteArray) (bad : Bool) (w : World) (hi : bad = true → s = ByteArray.empty) (h : Rdr w g s bad) :
    Calls Try.prog 16 #[.pointer (some ⟨g, 0, none⟩)] w fun e w' => e = .returned (.int .i64 (s.size : Int)) ∧ w' = w := (left_any g s bad w h).mono fun _ _ ⟨h1, h2⟩ => ⟨by rw [h1, leftR_inv s bad hi], h2.symm⟩
theorem bad_q (g : Nat) (s : ByteArray) (bad : Bool) (w : World) (h : Rdr w g s bad) :
    Calls Try.prog 18 #[.pointer (some ⟨g, 0, none⟩)] w fun e w' => e = .returned (.bool bad) ∧ w' = w := (isbad_any g s bad w h).mono fun _ _ ⟨h1, h2⟩ => ⟨h1, h2.symm⟩
theorem RR.grown {w w' : World} {g q : Nat} {s : ByteArray} {b : Bool} (h : RR w q s b) (hg : w.grownBy w' (some g)) (hne : q ≠ g) : RR w' q s b := Blk.grown h hg (by simpa using hne)
theorem Rdr.grown {w w' : World} {g q : Nat} {s : ByteArray} {b : Bool} (h : Rdr w g s b) (hg : w.grownBy w' (some q)) (hne : g ≠ q) : Rdr w' g s b := Blk.grown h hg (by simpa using hne)
theorem After.below {w w1 : World} {g : Nat} {s : ByteArray} {b : Bool} {B : Nat} {w0 : World} (h : After w g s b w1) (hb : Below B w0 w) (hB : B ≤ w.heap.size) (hg : B ≤ g) : Below B w0 w1 := below_grown hb h.2 hB hg
theorem below_drewN {B : Nat} {a w : World} (h : Below B a w) (n : Nat) : Below B a (w.drewN n) := ⟨h.os, h.tape, h.output, h.size, h.block⟩
theorem Rdr.drewN {w : World} {g : Nat} {s : ByteArray} {b : Bool} (h : Rdr w g s b) (k : Nat) : Rdr (w.drewN k) g s b := h
theorem RR.drewN {w : World} {g : Nat} {s : ByteArray} {b : Bool} (h : RR w g s b) (k : Nat) : RR (w.drewN k) g s b := h

set_option maxRecDepth 20000 in
set_option maxHeartbeats 8000000 in
theorem notchReads_walk (s : ByteArray) (a : Option Addr) (len cap : Nat) (rows : List (List Value)) (w : World) (hs : s.size ≤ maxLen) (hrow : IsRecs w a len cap 2 rows)
    (hpr : ∀ r ∈ rows, ∃ (x0 : Int) (x1 : Int), r = [.int .u8 x0, .int .i64 x1] ∧ (Lit.int .u8 x0).wf = true ∧ (Lit.int .i64 x1).wf = true) :
    Calls Try.prog 6 #[.string s, .slice a len cap] w fun e w' => e = .returned (.bool true) ∧ Below w.heap.size w w' := by
  by_cases hl : 3000 < s.size
  · unfold maxLen at hs
    clear hrow hpr
    go_enter Try.func6, Try.ntmps6
    go_wp2_with fail
    refine (head_any w).mono ?_
    rintro e w1 ⟨rfl, hb1⟩
    go_wp2_with fail
    go_ret
    exact ⟨rfl, hb1⟩
  obtain ⟨hll, hlc, hcm, hcells⟩ := hrow
  unfold maxLen at hcm
  have HC := Lib.hid hcells
  have HL := Lib.hid hll
  have HP := Lib.hid hpr
  clear hll hcells hpr
  go_enter Try.func6, Try.ntmps6
  go_wp2_with fail
  refine (open_new s w).mono ?_
  rintro e w1 ⟨rfl, hr1, hlt1, hb1⟩
  have R1 := Lib.hid hr1
  clear hr1
  obtain ⟨g, hg⟩ : ∃ g, w.heap.size = g := ⟨_, rfl⟩
  rw [hg] at R1 hlt1 hb1 ⊢
  obtain ⟨q, hq⟩ : ∃ q, w1.heap.size = q := ⟨_, rfl⟩
  have Q1 : Hid (RR (w1.alloc (.cells #[.string s, .bool false] 43)) q s false) := by
    subst hq
    exact Blk.new w1 _ _
  have RA : Hid (Rdr (w1.alloc (.cells #[.string s, .bool false] 43)) g s false) := Blk.alloc R1.out _
  have HA : q < (w1.alloc (.cells #[.string s, .bool false] 43)).heap.size := by rw [← hq]; simp
  have BA : Below g w (w1.alloc (.cells #[.string s, .bool false] 43)) := hb1.alloc (by omega) _
  have hgq : g < q := by omega
  go_wp2_with fail

  go_loopw [7] (fun i wr => ∃ (j : Nat) (S : ByteArray) (b : Bool), j ≤ len ∧ j ≤ 100 ∧ i = .int .i64 (j : Int) ∧ S.size ≤ 3000 ∧ Hid (b = true → S = ByteArray.empty) ∧ Hid (Rdr wr g S b) ∧ Hid (RR wr q S b) ∧ q < wr.heap.size ∧ Below g w wr) (fun i _ => 100 - (intOf i).toNat)
  case atStart => exact ⟨0, s, false, by omega, by omega, rfl, by omega, Lib.hid (fun h => absurd h (by decide)), RA, Q1, HA, BA⟩
  case round =>
    obtain ⟨j, S, b, hj, hj100, rfl, hS, HI, HR, HQ, hqw, hbel⟩ := hrel
    by_cases hc : j < len ∧ j < 100
    · obtain ⟨hlt, hjl⟩ := hc
      have dd1 : decide (j < len) = true := by simpa using hlt
      have dd2 : decide ((j : Int) < 100) = true := by simp; omega
      obtain ⟨bb, off, ha, hbw, hcs⟩ := HC.out (by omega)
      subst ha
      obtain ⟨r, hr⟩ : ∃ r, rows[j]? = some r := ⟨rows[j]'(by rw [HL.out]; exact hlt), List.getElem?_eq_getElem _⟩
      obtain ⟨x0, n, rfl, z0, z1⟩ := HP.out r (List.mem_of_getElem? hr)
      have hcell0 : wr.cell? ⟨bb, off + j * 2, none⟩ = some (.int .u8 x0) := (hbel.cell (p := ⟨bb, off + (j * 2 + 0), none⟩) (by show bb < g; omega)).trans (hcs j _ hr 0 _ rfl)
      have hcell1 : wr.cell? ⟨bb, off + j * 2 + 1, none⟩ = some (.int .i64 n) := (hbel.cell (p := ⟨bb, off + (j * 2 + 1), none⟩) (by show bb < g; omega)).trans (hcs j _ hr 1 _ rfl)
      obtain ⟨u0, u1⟩ := bounds_u8 z0
      obtain ⟨n0, n1⟩ := bounds_i64 z1
      obtain ⟨c, rfl⟩ := Int.eq_ofNat_of_zero_le u0
      have HW : Hid (w.cell? ⟨bb, off + j * 2 + 1, none⟩ = some (.int .i64 n)) := hcs j _ hr 1 _ rfl
      clear hr hcs z0 z1 u0
      by_cases hm0 : c % 4 = 0
      · obtain ⟨hi1, hi2⟩ := numR_inv S b HI.out
        have c1 := num_any g S b wr (by unfold maxLen; omega) HR.out
        have c2 := fun W hW => rnum_any q S b W (by unfold maxLen; omega) HI.out hW
        obtain ⟨hn1, -⟩ := numR_bd S b
        generalize numR S b = T at *
        obtain ⟨n2, S2, b2⟩ := T
        simp only at c1 c2 hi1 hi2 hn1
        have HI2 := Lib.hid hi1
        have hS2 : S2.size ≤ 3000 := by omega
        have C1 := Lib.hid c1
        have C2 := Lib.hid c2
        clear c1 c2 hi1 hi2
        go_wp2_with fail
        refine C1.out.mono ?_
        rintro e w2 ⟨rfl, ha2⟩
        have HQ2 : Hid (RR w2 q S b) := HQ.out.grown ha2.2 (by omega)
        have HR2 := Lib.hid ha2.1
        have hq2 : q < w2.heap.size := Nat.lt_of_lt_of_le hqw ha2.2.size
        have hbl2 : Below g w w2 := below_grown hbel ha2.2 (by omega) (Nat.le_refl _)
        clear ha2
        go_wp2_with fail
        refine (C2.out w2 HQ2.out).mono ?_
        rintro e w3 ⟨rfl, ha3⟩
        have HQ3 := Lib.hid ha3.1
        have HR3 : Hid (Rdr w3 g S2 b2) := HR2.out.grown ha3.2 (by omega)
        have hq3 : q < w3.heap.size := Nat.lt_of_lt_of_le hq2 ha3.2.size
        have hbl3 : Below g w w3 := below_grown hbl2 ha3.2 (by omega) (by omega)
        clear ha3
        have hq0_ := HQ3.out.s
        have hq1_ := HQ3.out.b
        go_wp2_with fail
        go_quiet (first
          | (go_at_call 16; exact Calls.quiet_of_same (left_q2 g S2 b2 _ HI2.out (HR3.out.drewN _)))
          | (go_at_call 18; exact Calls.quiet_of_same (bad_q g S2 b2 _ (HR3.out.drewN _))))
        have K1 := fun k => Lib.hid (HR3.out.drewN k)
        have K2 := fun k => Lib.hid (HQ3.out.drewN k)
        have K3 := fun k => Lib.hid (below_drewN hbl3 k)
        have K4 : ∀ k, Hid (q < (World.drewN w3 k).heap.size) := fun _ => hq3
        clear HR3 HQ3 hbl3 hq3 hq0_ hq1_
        generalize hW : World.drewN w3 _ = W4
        obtain ⟨k, hk⟩ : ∃ k, World.drewN w3 k = W4 := ⟨_, hW⟩
        have L1 := K1 k
        have L2 := K2 k
        have L3 := K3 k
        have L4 := K4 k
        rw [hk] at L1 L2 L3 L4
        clear K1 K2 K3 K4 hk hW
        go_wp2_with fail
        go_roundw
        first
          | exact ⟨⟨j + 1, S2, b2, by omega, by omega, by go_num, hS2, HI2, L1, L2, L4.out, L3.out⟩, by simp [intOf]; omega⟩
          | (case rel => exact ⟨j + 1, S2, b2, by omega, by omega, by go_num, hS2, HI2, L1, L2, L4.out, L3.out⟩
             case measure => simp [intOf]; omega)
      by_cases hm1 : c % 4 = 1
      · obtain ⟨hi1, hi2⟩ := textR_inv S b n HI.out
        have c1 := fun W hW => text_any g S b n W (by unfold maxLen; omega) n0 n1 hW
        have c2 := fun W hW => rtext_any q S b n W (by omega) n0 n1 HI.out hW
        generalize textR S b n = T at *
        obtain ⟨x2, S2, b2⟩ := T
        simp only at c1 c2 hi1 hi2
        have HI2 := Lib.hid hi1
        have hS2 : S2.size ≤ 3000 := by omega
        have C1 := Lib.hid c1
        have C2 := Lib.hid c2
        have HRd : Hid (Rdr wr.drew g S b) := HR
        have HQd : Hid (RR wr.drew q S b) := HQ
        have hbeld := Lib.hid hbel.drew
        have hgwd : Hid (g ≤ wr.drew.heap.size) := by show g ≤ wr.heap.size; omega
        have hqwd : Hid (q < wr.drew.heap.size) := hqw
        clear c1 c2 hi1 hi2
        go_wp2_with fail
        first | (go_region_with ((first
          | (go_at_call 21; refine (C1.out wr.drew HRd.out).mono ?_; rintro e w2 ⟨rfl, ha2⟩; have HQ2 : Hid (RR w2 q S b) := HQd.out.grown ha2.2 (by omega); have HR2 := Lib.hid ha2.1; have hq2 : q < w2.heap.size := Nat.lt_of_lt_of_le hqwd.out ha2.2.size; have hbl2 : Below g w w2 := below_grown hbeld.out ha2.2 hgwd.out (Nat.le_refl _); have hcell2 : w2.cell? ⟨bb, off + j * 2 + 1, none⟩ = some (.int .i64 n) := ((hbl2.cell (p := ⟨bb, off + j * 2 + 1, none⟩) (by show bb < g; omega)).trans HW.out); clear ha2)
          | (go_at_call 22; refine (C2.out w2 HQ2.out).mono ?_; rintro e w3 ⟨rfl, ha3⟩; have HQ3 := Lib.hid ha3.1; have HR3 : Hid (Rdr w3 g S2 b2) := HR2.out.grown ha3.2 (by omega); have hq3 : q < w3.heap.size := Nat.lt_of_lt_of_le hq2 ha3.2.size; have hbl3 : Below g w w3 := below_grown hbl2 ha3.2 (by omega) (by omega); clear ha3)))) | fail
        all_goals
          have hq0_ := HQ3.out.s
          have hq1_ := HQ3.out.b
          go_wp2_with fail
          go_quiet (first
            | (go_at_call 16; exact Calls.quiet_of_same (left_q2 g S2 b2 _ HI2.out (HR3.out.drewN _)))
            | (go_at_call 18; exact Calls.quiet_of_same (bad_q g S2 b2 _ (HR3.out.drewN _))))
          have K1 := fun k => Lib.hid (HR3.out.drewN k)
          have K2 := fun k => Lib.hid (HQ3.out.drewN k)
          have K3 := fun k => Lib.hid (below_drewN hbl3 k)
          have K4 : ∀ k, Hid (q < (World.drewN w3 k).heap.size) := fun _ => hq3
          clear HR3 HQ3 hbl3 hq3 hq0_ hq1_
          generalize hW : World.drewN w3 _ = W4
          obtain ⟨k, hk⟩ : ∃ k, World.drewN w3 k = W4 := ⟨_, hW⟩
          have L1 := K1 k
          have L2 := K2 k
          have L3 := K3 k
          have L4 := K4 k
          rw [hk] at L1 L2 L3 L4
          clear K1 K2 K3 K4 hk hW
          go_wp2_with fail
          go_roundw
          first
            | exact ⟨⟨j + 1, S2, b2, by omega, by omega, by go_num, hS2, HI2, L1, L2, L4.out, L3.out⟩, by simp [intOf]; omega⟩
            | (case rel => exact ⟨j + 1, S2, b2, by omega, by omega, by go_num, hS2, HI2, L1, L2, L4.out, L3.out⟩
               case measure => simp [intOf]; omega)
      by_cases hm2 : c % 4 = 2
      · obtain ⟨hi1, hi2⟩ := takeR_inv S b n HI.out
        have c1 := fun W hW => take_any g S b n W (by unfold maxLen; omega) hW
        have c2 := fun W hW => rtake_any q S b n W (by unfold maxLen; omega) HI.out hW
        generalize takeR S b n = T at *
        obtain ⟨x2, S2, b2⟩ := T
        simp only at c1 c2 hi1 hi2
        have HI2 := Lib.hid hi1
        have hS2 : S2.size ≤ 3000 := by omega
        have C1 := Lib.hid c1
        have C2 := Lib.hid c2
        have HRd : Hid (Rdr wr.drew g S b) := HR
        have HQd : Hid (RR wr.drew q S b) := HQ
        have hbeld := Lib.hid hbel.drew
        have hgwd : Hid (g ≤ wr.drew.heap.size) := by show g ≤ wr.heap.size; omega
        have hqwd : Hid (q < wr.drew.heap.size) := hqw
        clear c1 c2 hi1 hi2
        go_wp2_with fail
        first | (go_region_with ((first
          | (go_at_call 17; refine (C1.out wr.drew HRd.out).mono ?_; rintro e w2 ⟨rfl, ha2⟩; have HQ2 : Hid (RR w2 q S b) := HQd.out.grown ha2.2 (by omega); have HR2 := Lib.hid ha2.1; have hq2 : q < w2.heap.size := Nat.lt_of_lt_of_le hqwd.out ha2.2.size; have hbl2 : Below g w w2 := below_grown hbeld.out ha2.2 hgwd.out (Nat.le_refl _); have hcell2 : w2.cell? ⟨bb, off + j * 2 + 1, none⟩ = some (.int .i64 n) := ((hbl2.cell (p := ⟨bb, off + j * 2 + 1, none⟩) (by show bb < g; omega)).trans HW.out); clear ha2)
          | (go_at_call 23; refine (C2.out w2 HQ2.out).mono ?_; rintro e w3 ⟨rfl, ha3⟩; have HQ3 := Lib.hid ha3.1; have HR3 : Hid (Rdr w3 g S2 b2) := HR2.out.grown ha3.2 (by omega); have hq3 : q < w3.heap.size := Nat.lt_of_lt_of_le hq2 ha3.2.size; have hbl3 : Below g w w3 := below_grown hbl2 ha3.2 (by omega) (by omega); clear ha3)))) | fail
        all_goals
          have hq0_ := HQ3.out.s
          have hq1_ := HQ3.out.b
          go_wp2_with fail
          go_quiet (first
            | (go_at_call 16; exact Calls.quiet_of_same (left_q2 g S2 b2 _ HI2.out (HR3.out.drewN _)))
            | (go_at_call 18; exact Calls.quiet_of_same (bad_q g S2 b2 _ (HR3.out.drewN _))))
          have K1 := fun k => Lib.hid (HR3.out.drewN k)
          have K2 := fun k => Lib.hid (HQ3.out.drewN k)
          have K3 := fun k => Lib.hid (below_drewN hbl3 k)
          have K4 : ∀ k, Hid (q < (World.drewN w3 k).heap.size) := fun _ => hq3
          clear HR3 HQ3 hbl3 hq3 hq0_ hq1_
          generalize hW : World.drewN w3 _ = W4
          obtain ⟨k, hk⟩ : ∃ k, World.drewN w3 k = W4 := ⟨_, hW⟩
          have L1 := K1 k
          have L2 := K2 k
          have L3 := K3 k
          have L4 := K4 k
          rw [hk] at L1 L2 L3 L4
          clear K1 K2 K3 K4 hk hW
          go_wp2_with fail
          go_roundw
          first
            | exact ⟨⟨j + 1, S2, b2, by omega, by omega, by go_num, hS2, HI2, L1, L2, L4.out, L3.out⟩, by simp [intOf]; omega⟩
            | (case rel => exact ⟨j + 1, S2, b2, by omega, by omega, by go_num, hS2, HI2, L1, L2, L4.out, L3.out⟩
               case measure => simp [intOf]; omega)
      have hm3 : c % 4 = 3 := by omega
      have hq0_ := HQ.out.s
      have hq1_ := HQ.out.b
      go_wp2_with fail
      go_quiet (first
        | (go_at_call 16; exact Calls.quiet_of_same (left_q2 g S b _ HI.out (HR.out.drewN _)))
        | (go_at_call 18; exact Calls.quiet_of_same (bad_q g S b _ (HR.out.drewN _))))
      have K1 := fun k => Lib.hid (HR.out.drewN k)
      have K2 := fun k => Lib.hid (HQ.out.drewN k)
      have K3 := fun k => Lib.hid (below_drewN hbel k)
      have K4 : ∀ k, Hid (q < (World.drewN wr k).heap.size) := fun _ => hqw
      clear HR HQ hbel hqw hq0_ hq1_
      generalize hW : World.drewN wr _ = W4
      obtain ⟨k, hk⟩ : ∃ k, World.drewN wr k = W4 := ⟨_, hW⟩
      have L1 := K1 k
      have L2 := K2 k
      have L3 := K3 k
      have L4 := K4 k
      rw [hk] at L1 L2 L3 L4
      clear K1 K2 K3 K4 hk hW
      go_wp2_with fail
      go_roundw
      first
        | exact ⟨⟨j + 1, S, b, by omega, by omega, by go_num, hS, HI, L1, L2, L4.out, L3.out⟩, by simp [intOf]; omega⟩
        | (case rel => exact ⟨j + 1, S, b, by omega, by omega, by go_num, hS, HI, L1, L2, L4.out, L3.out⟩
           case measure => simp [intOf]; omega)
    · by_cases hlt : j < len
      · have dd1 : decide (j < len) = true := by simpa using hlt
        have dd2 : decide ((j : Int) < 100) = false := by simp; omega
        go_wp2_with fail
        refine (head_any wr).mono ?_
        rintro e w3 ⟨rfl, hb3⟩
        go_wp2_with fail
        go_ret
        exact ⟨rfl, hg ▸ hbel.trans (hb3.mono (by omega))⟩
      · have dd1 : decide (j < len) = false := by simpa using hlt
        go_wp2_with fail
        refine (head_any wr).mono ?_
        rintro e w3 ⟨rfl, hb3⟩
        go_wp2_with fail
        go_ret
        exact ⟨rfl, hg ▸ hbel.trans (hb3.mono (by omega))⟩
end Go.Proofs.Ytmmlmcanjacngaa.Notch
