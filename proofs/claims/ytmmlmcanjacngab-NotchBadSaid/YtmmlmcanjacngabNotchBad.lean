/-
NotchBad: a reader that is bad stays so, and tells nothing; and a nil one is as bad; texts of more than 3000 bytes are let go. No condition.
-/
import Derived.Test.YtmmlmcanjacngabNotchHead
import Derived.Test.YtmmlmcanjacngabRecs
import Derived.Deep.QuietTactic
import Derived.BigQuiet
namespace Go.Proofs.Ytmmlmcanjacngab.Notch
open Go.RowKit

/-- A reader that tells nothing: none at all, or a bad one. -/
def Dud (w : World) (p : Option Addr) : Prop := p = none ∨ ∃ g s, p = some ⟨g, 0, none⟩ ∧ Rdr w g s true
theorem isbad_dud (p : Option Addr) (w : World) (h : Dud w p) :
    Calls Try.prog 12 #[.pointer p] w fun e w' => e = .returned (.bool true) ∧ w' = w := by
  rcases h with rfl | ⟨g, s, rfl, h⟩
  · exact (isbad_nil w).mono fun _ _ ⟨h1, h2⟩ => ⟨h1, h2.symm⟩
  · exact (isbad_any g s true w h).mono fun _ _ ⟨h1, h2⟩ => ⟨h1, h2.symm⟩
theorem left_dud (p : Option Addr) (w : World) (h : Dud w p) :
    Calls Try.prog 13 #[.pointer p] w fun e w' => e = .returned (.int .i64 0) ∧ w' = w := by
  rcases h with rfl | ⟨g, s, rfl, h⟩
  · exact (left_nil w).mono fun _ _ ⟨h1, h2⟩ => ⟨h1, h2.symm⟩
  · exact (left_any g s true w h).mono fun _ _ ⟨h1, h2⟩ => ⟨h1, h2.symm⟩
theorem take_dud (p : Option Addr) (n : Int) (w : World) (h : Dud w p) :
    Calls Try.prog 11 #[.pointer p, .int .i64 n] w fun e w' => e = .returned (.string ByteArray.empty) ∧ w' = w := by
  have H := Lib.hid h
  clear h
  go_enter Try.func11, Try.ntmps11
  go_wp2_with fail
  refine (isbad_dud p w H.out).mono ?_
  rintro e w' ⟨rfl, rfl⟩
  go_wp2_with fail
  go_ret
  exact ⟨rfl, rfl⟩
theorem num_dud (p : Option Addr) (w : World) (h : Dud w p) :
    Calls Try.prog 8 #[.pointer p] w fun e w' => e = .returned (.int .u64 0) ∧ w' = w := by
  have H := Lib.hid h
  clear h
  go_enter Try.func8, Try.ntmps8
  go_wp2_with fail
  refine (take_dud p 1 w H.out).mono ?_
  rintro e w' ⟨rfl, rfl⟩
  go_wp2_with fail
  refine (isbad_dud p _ H.out).mono ?_
  rintro e w' ⟨rfl, rfl⟩
  go_wp2_with fail
  go_ret
  exact ⟨rfl, rfl⟩
theorem text_dud (p : Option Addr) (most : Int) (w : World) (h : Dud w p) :
    Calls Try.prog 10 #[.pointer p, .int .i64 most] w fun e w' => e = .returned (.string ByteArray.empty) ∧ w' = w := by
  have H := Lib.hid h
  clear h
  go_enter Try.func10, Try.ntmps10
  go_wp2_with fail
  refine (num_dud p w H.out).mono ?_
  rintro e w' ⟨rfl, rfl⟩
  go_wp2_with fail
  refine (isbad_dud p _ H.out).mono ?_
  rintro e w' ⟨rfl, rfl⟩
  go_wp2_with fail
  go_ret
  exact ⟨rfl, rfl⟩
theorem Dud.drewN {w : World} {p : Option Addr} (h : Dud w p) (k : Nat) : Dud (w.drewN k) p := h

/-- Both readers, in a slice; nothing below has changed. -/
def St (w0 : World) (g B q : Nat) (w : World) : Prop :=
  (∃ t, Blk w B t [.pointer none, .pointer (some ⟨q, 0, none⟩)]) ∧ Rdr w q ByteArray.empty true ∧ Below g w0 w ∧ g ≤ w.heap.size
theorem St.drewN {w0 w : World} {g B q : Nat} (h : St w0 g B q w) (k : Nat) : St w0 g B q (w.drewN k) :=
  ⟨h.1, h.2.1, ⟨h.2.2.1.os, h.2.2.1.tape, h.2.2.1.output, h.2.2.1.size, h.2.2.1.block⟩, h.2.2.2⟩
theorem St.at {w0 w : World} {g B q : Nat} (h : St w0 g B q w) (j : Nat) (hj : j < 2) : ∃ p, w.cell? ⟨B, j, none⟩ = some (.pointer p) ∧ Dud w p := by
  obtain ⟨t, hb⟩ := h.1
  have hc := hb.cell j
  match j, hj with
  | 0, _ => exact ⟨none, hc, Or.inl rfl⟩
  | 1, _ => exact ⟨some ⟨q, 0, none⟩, hc, Or.inr ⟨q, _, rfl, h.2.1⟩⟩

set_option maxRecDepth 20000 in
set_option maxHeartbeats 8000000 in
theorem notchBad_walk (s : ByteArray) (a : Option Addr) (len cap : Nat) (rows : List (List Value)) (w : World) (hs : s.size ≤ maxLen) (hrow : IsRecs w a len cap 2 rows)
    (hpr : ∀ r ∈ rows, ∃ (x0 : Int) (x1 : Int), r = [.int .u8 x0, .int .i64 x1] ∧ (Lit.int .u8 x0).wf = true ∧ (Lit.int .i64 x1).wf = true) :
    Calls Try.prog 4 #[.string s, .slice a len cap] w fun e w' => e = .returned (.bool true) ∧ Below w.heap.size w w' := by
  by_cases hl : 3000 < s.size
  · unfold maxLen at hs
    clear hrow hpr
    go_enter Try.func4, Try.ntmps4
    go_wp2_with fail
    refine (head_any w).mono ?_
    rintro e w1 ⟨rfl, hb1⟩
    go_wp2_with fail
    go_ret
    exact ⟨rfl, hb1⟩
  obtain ⟨hll, hlc, hcm, hcells⟩ := hrow
  unfold maxLen at hcm
  have HC := Lib.hid hcells
  have HL := Lib.hid hll
  have HP := Lib.hid hpr
  clear hll hcells hpr
  obtain ⟨g, hg⟩ : ∃ g, w.heap.size = g := ⟨_, rfl⟩
  have c1 := open_new s w
  rw [hg] at c1 ⊢
  have C1 := Lib.hid c1
  clear c1
  go_enter Try.func4, Try.ntmps4
  go_wp2_with fail
  refine C1.out.mono ?_
  rintro e w1 ⟨rfl, hr1, hlt1, hb1⟩
  have c2 := take_any g s false (-1) w1 hs hr1
  rw [takeR_no s (-1) (Or.inl (by decide))] at c2
  have C2 := Lib.hid c2
  have HB1 := Lib.hid hb1
  clear hr1 c2 hb1
  go_wp2_with fail
  refine C2.out.mono ?_
  rintro e w2 ⟨rfl, ha2⟩
  have hb2 : Below g w w2 := below_grown HB1.out ha2.2 (by omega) (Nat.le_refl _)
  have hg2 : g ≤ w2.heap.size := Nat.le_trans (by omega) ha2.2.size
  have hR := fun o => Blk.alloc ha2.1 o
  have hB := fun o => hb2.alloc hg2 o
  have hN := fun t => Blk.new w2 t [.pointer none, .pointer (some ⟨g, 0, none⟩)]
  have HS0 : Hid (∀ t, St w g w2.heap.size g (w2.alloc (.cells #[.pointer none, .pointer (some ⟨g, 0, none⟩)] t))) := fun t => ⟨⟨_, hN t⟩, hR _, hB _, by simp; omega⟩
  clear hR hB hN ha2 hb2
  obtain ⟨B, hBe⟩ : ∃ B, w2.heap.size = B := ⟨_, rfl⟩
  rw [hBe] at HS0
  go_wp2_with fail
  go_loopw [8, 9] (fun k _ wr => ∃ (j : Nat), j ≤ 2 ∧ k = .int .i64 (j : Int) ∧ Hid (St w g B g wr)) (fun k _ _ => 2 - (intOf k).toNat)
  case atStart => exact ⟨0, by omega, rfl, HS0.out _⟩
  case round =>
    obtain ⟨j, hj, rfl, HS⟩ := hrel
    by_cases hj2 : j < 2
    · have dj : decide ((j : Int) < 2) = true := by simp; omega
      go_wp2_with fail
      go_loopw [9] (fun i v => ∃ (m : Nat), m ≤ len ∧ m ≤ 100 ∧ i = .int .i64 (m : Int) ∧ Hid (St w g B g v)) (fun i _ => 100 - (intOf i).toNat)
      case atStart => exact ⟨0, by omega, by omega, rfl, HS⟩
      case round =>
        rename World => v
        obtain ⟨m, hm, hm100, rfl, HV⟩ := hrel
        by_cases hc : m < len ∧ m < 100
        · obtain ⟨hlt, hjl⟩ := hc
          have dd1 : decide (m < len) = true := by simpa using hlt
          have dd2 : decide ((m : Int) < 100) = true := by simp; omega
          obtain ⟨bb, off, ha, hbw, hcs⟩ := HC.out (by omega)
          subst ha
          obtain ⟨r, hr⟩ : ∃ r, rows[m]? = some r := ⟨rows[m]'(by rw [HL.out]; exact hlt), List.getElem?_eq_getElem _⟩
          obtain ⟨x0, n, rfl, z0, z1⟩ := HP.out r (List.mem_of_getElem? hr)
          have hcell1 : v.cell? ⟨bb, off + m * 2 + 1, none⟩ = some (.int .i64 n) := (HV.out.2.2.1.cell (p := ⟨bb, off + (m * 2 + 1), none⟩) (by show bb < g; omega)).trans (hcs m _ hr 1 _ rfl)
          obtain ⟨p, hcp, hd⟩ := HV.out.at j hj2
          have HD := Lib.hid hd
          clear hr hcs z0 z1 hd
          go_wp2_with fail
          go_quiet (first
            | (go_at_call 12; exact Calls.quiet_of_same (isbad_dud p _ (HD.out.drewN _)))
            | (go_at_call 13; exact Calls.quiet_of_same (left_dud p _ (HD.out.drewN _)))
            | (go_at_call 8; exact Calls.quiet_of_same (num_dud p _ (HD.out.drewN _)))
            | (go_at_call 10; exact Calls.quiet_of_same (text_dud p n _ (HD.out.drewN _)))
            | (go_at_call 11; exact Calls.quiet_of_same (take_dud p n _ (HD.out.drewN _))))
          have K1 := fun k => Lib.hid (HV.out.drewN k)
          clear HV hcell1 hcp HD
          generalize hW : World.drewN v _ = W4
          obtain ⟨k, hk⟩ : ∃ k, World.drewN v k = W4 := ⟨_, hW⟩
          have L1 := K1 k
          rw [hk] at L1
          clear K1 hk hW
          go_wp2_with fail
          go_roundw
          first
            | exact ⟨⟨m + 1, by omega, by omega, by go_num, L1⟩, by simp [intOf]; omega⟩
            | (case rel => exact ⟨m + 1, by omega, by omega, by go_num, L1⟩
               case measure => simp [intOf]; omega)
        · by_cases hlt : m < len
          · have dd1 : decide (m < len) = true := by simpa using hlt
            have dd2 : decide ((m : Int) < 100) = false := by simp; omega
            go_wp2_with fail
            go_roundw
            first
              | exact ⟨⟨j + 1, by omega, by go_num, HV⟩, by simp [intOf]; omega⟩
              | (case rel => exact ⟨j + 1, by omega, by go_num, HV⟩
                 case measure => simp [intOf]; omega)
          · have dd1 : decide (m < len) = false := by simpa using hlt
            go_wp2_with fail
            go_roundw
            first
              | exact ⟨⟨j + 1, by omega, by go_num, HV⟩, by simp [intOf]; omega⟩
              | (case rel => exact ⟨j + 1, by omega, by go_num, HV⟩
                 case measure => simp [intOf]; omega)
    · obtain rfl : j = 2 := by omega
      have hR := HS.out.2.1
      go_wp2_with fail
      refine (isbad_any g _ true _ hR).mono ?_
      rintro e w' ⟨rfl, rfl⟩
      go_wp2_with fail
      refine (isbad_nil _).mono ?_
      rintro e w' ⟨rfl, rfl⟩
      go_wp2_with fail
      refine (head_any _).mono ?_
      rintro e w3 ⟨rfl, hb3⟩
      go_wp2_with fail
      go_ret
      exact ⟨rfl, HS.out.2.2.1.trans (hb3.mono HS.out.2.2.2)⟩
end Go.Proofs.Ytmmlmcanjacngab.Notch
