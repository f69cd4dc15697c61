/-
StoreCut: of any beginning of a head and records Read tells just the records that it has whole; heads of more than 300 bytes, and more than 20 records or records of more than 300 bytes, are let go. No condition.
-/
import Derived.Test.YtaknmionaibodaaDoorStoreLaid
namespace Go.Proofs.YtaknmionaibodaaDoor.Store
open Go.RowKit Notch

theorem endK_mono (s : ByteArray) (l : List (Nat × ByteArray)) (m n : Nat) (h : m ≤ n) (hn : n ≤ l.length) : endK s l m ≤ endK s l n := by
  induction n with
  | zero => obtain rfl : m = 0 := by omega
            exact Nat.le_refl _
  | succ n ih =>
    by_cases hm : m = n + 1
    · rw [hm]; exact Nat.le_refl _
    · have := ih (by omega) (by omega)
      rw [endK_succ s l n (by omega)]
      omega
theorem whole_of (s : ByteArray) (l : List (Nat × ByteArray)) (N : Nat) (h0 : endK s l 0 ≤ N) : ∀ j, j ≤ l.length → ∃ M, M ≤ j ∧ endK s l M ≤ N ∧ (M < j → N < endK s l (M + 1))
  | 0, _ => ⟨0, Nat.le_refl _, h0, fun h => absurd h (by omega)⟩
  | j + 1, hj => by
    obtain ⟨M, h1, h2, h3⟩ := whole_of s l N h0 j (by omega)
    by_cases hM : M = j
    · subst hM
      by_cases h : endK s l (M + 1) ≤ N
      · exact ⟨M + 1, Nat.le_refl _, h, fun h => absurd h (by omega)⟩
      · exact ⟨M, by omega, h2, fun _ => by omega⟩
    · exact ⟨M, by omega, h2, fun _ => h3 (by omega)⟩
theorem int_mod (a b : Nat) : ((a : Int) % (b : Int)) = ((a % b : Nat) : Int) := (Int.natCast_emod a b).symm
set_option maxRecDepth 100000 in
set_option maxHeartbeats 2000000 in
theorem storeCut_let (s : ByteArray) (v : Value) (l : List (Nat × ByteArray)) (A : Nat) (w : World) (hs : s.size ≤ maxLen) (h : Rs w v l) (hv : ∀ r ∈ l, r.1 < 256 ∧ r.2.size ≤ maxLen) (hsh : Shifts w) (hlet : ¬ (Few s l ∧ Kinds l)) :
    Calls Tryd.prog 5 #[.string s, v, .int .u16 (A : Int)] w fun e w' => e = .returned (.bool true) ∧ Below w.heap.size w w' := by
  have HS := Lib.hid hsh
  by_cases hf : Few s l
  · have c1 := Lib.hid (great_no s v l w h hf)
    have c2 := Lib.hid (laid_any s v l w h hf (fun r hr => (hv r hr).1) hsh)
    have HK := Lib.hid (show ¬ Kinds l from fun hk => hlet ⟨hf, hk⟩)
    unfold maxLen at hs
    clear h hv hf hlet
    go_enter Tryd.func5, Tryd.ntmps5
    go_wp2_with fail
    refine c1.out.mono ?_
    rintro e w1 ⟨rfl, rfl⟩
    go_wp2_with fail
    refine c2.out.mono ?_
    intro e w1 hl1
    obtain ⟨rfl, hb1⟩ := hl1.no HK.out
    have hS1 := HS.out.below hb1
    clear hl1
    go_wp2_with fail
    refine (lawHead_any _ hS1).mono ?_
    rintro e w3 ⟨rfl, hb3⟩
    go_wp2_with fail
    go_ret
    exact ⟨rfl, hb1.trans (hb3.mono hb1.size)⟩
  · have c1 := Lib.hid (great_yes s v l w hs h (fun r hr => (hv r hr).2) hf)
    unfold maxLen at hs
    clear h hv hf hlet
    go_enter Tryd.func5, Tryd.ntmps5
    go_wp2_with fail
    refine c1.out.mono ?_
    rintro e w1 ⟨rfl, rfl⟩
    go_wp2_with fail
    refine (lawHead_any _ HS.out).mono ?_
    rintro e w1 ⟨rfl, hb1⟩
    go_wp2_with fail
    go_ret
    exact ⟨rfl, hb1⟩
set_option maxRecDepth 100000 in
set_option maxHeartbeats 4000000 in
theorem storeCut_main (s : ByteArray) (v : Value) (l : List (Nat × ByteArray)) (A : Nat) (w : World) (hA : A < 65536) (h : Rs w v l) (hv : ∀ r ∈ l, r.1 < 256 ∧ r.2.size ≤ maxLen) (hsh : Shifts w) (hf : Few s l) (hk : Kinds l) :
    Calls Tryd.prog 5 #[.string s, v, .int .u16 (A : Int)] w fun e w' => e = .returned (.bool true) ∧ Below w.heap.size w w' := by
  have HS := Lib.hid hsh
  have c1 := Lib.hid (great_no s v l w h hf)
  have hv1 := fun r hr => (hv r hr).1
  have d2 := laid_yes s v l w h hf hv1 hk hsh
  have hB := laid_small s l hf hv1
  have hlen := hf.2.1
  have hfs := hf.1
  have hget := fun i hi => endsL_get s l l.length i hi
  have hel := endsL_length s l l.length
  have hlast := endK_last s l
  have hmono := endK_mono s l
  have hwhole := whole_of s l
  have hcut := fun n m hm h1 h2 => read_facts (read_cut s l n m (by omega) (valid_of hf hk) hm h1 h2)
  have hno := fun n h => read_no (read_cut_no s l n (by omega) h)
  generalize laidB s l = X at *
  generalize endsL s l l.length = L at *
  generalize endK s l = E at *
  obtain ⟨N, hN, hNe⟩ : ∃ N : Nat, N = (if A % 5 = 0 then E (A / 5 % (l.length + 1)) else A % (X.size + 1)) ∧ N ≤ X.size := by
    refine ⟨_, rfl, ?_⟩
    split
    · rw [← hlast]
      exact hmono _ _ (by have := Nat.mod_lt (A / 5) (show 0 < l.length + 1 by omega); omega) (Nat.le_refl _)
    · have := Nat.mod_lt A (show 0 < X.size + 1 by omega); omega
  have q1 : (A : Int) % ((X.size : Int) + 1) = ((A % (X.size + 1) : Nat) : Int) := by rw [← int_mod, Int.natCast_add]; rfl
  have q2 : (A : Int) % 5 = ((A % 5 : Nat) : Int) := by omega
  have q3 : (A : Int) / 5 % ((l.length : Int) + 1) = ((A / 5 % (l.length + 1) : Nat) : Int) := by rw [← int_mod, Int.natCast_add, Int.natCast_ediv]; rfl
  have hi0 : A / 5 % (l.length + 1) ≤ l.length := by have := Nat.mod_lt (A / 5) (show 0 < l.length + 1 by omega); omega
  have hNm : A % (X.size + 1) < X.size + 1 := Nat.mod_lt _ (by omega)
  obtain ⟨m5, hm5⟩ : ∃ m5, A % 5 = m5 := ⟨_, rfl⟩
  rw [hm5] at hN q2
  generalize A / 5 % (l.length + 1) = i0 at *
  generalize A % (X.size + 1) = N0 at *
  have D2 := Lib.hid d2
  have HL := Lib.hid (And.intro hel hget)
  have HM := Lib.hid (And.intro hmono (And.intro hwhole (And.intro hcut (And.intro hno (And.intro hlast hN)))))
  have HR := Lib.hid h
  have hss : (s.toList == s.toList) = true := by simp
  clear h hv hf hk hv1 d2 hel hget hmono hwhole hcut hno hlast hN
  obtain ⟨av, cv, rfl, -, -, hg⟩ := HR.out
  have HG := Lib.hid hg
  clear hg
  have hcase : (((m5 : Int) == 0) = true ∧ N = E i0) ∨ (((m5 : Int) == 0) = false ∧ N = N0) := by
    have := HM.out.2.2.2.2.2
    by_cases h5 : m5 = 0
    · rw [if_pos h5] at this
      exact .inl ⟨by rw [beq_iff_eq]; omega, this⟩
    · rw [if_neg h5] at this
      exact .inr ⟨by rw [beq_eq_false_iff_ne]; omega, this⟩
  obtain ⟨E0, hE0⟩ : ∃ E0, E 0 = E0 := ⟨_, rfl⟩
  have HE0 := Lib.hid hE0
  clear hm5 hE0
  have hXs : (X.extract 0 N).size ≤ 1000000 := by rw [ByteArray.size_extract]; omega
  rcases hcase with ⟨q4, hNN⟩ | ⟨q4, hNN⟩
  all_goals
    go_enter Tryd.func5, Tryd.ntmps5
    have HNN := Lib.hid hNN
    clear hNN
    go_wp2_with fail
    refine c1.out.mono ?_
    rintro e w0 ⟨rfl, rfl⟩
    go_wp2_with fail
    refine D2.out.mono ?_
    rintro e w1 ⟨v1, rfl, hz1, hb1⟩
    have hS1 := HS.out.below hb1
    obtain ⟨az, cz, rfl, z1, z2, z3⟩ := hz1
    rw [HL.out.1] at z1 z3 ⊢
    obtain ⟨zb, zo, rfl, zlt, zc⟩ := z3 (by omega)
    have zE := fun i hi => zc i _ (HL.out.2 i hi)
    have zi0 := zE i0 hi0
    have hNN := HNN.out
    first | (rw [← hNN] at zi0) | (rw [← hNN] at q1)
    unfold maxLen at z2
    have HZ := Lib.hid zE
    have HB1 := Lib.hid (And.intro hb1 hS1)
    clear hb1 hS1 zc zE hNN z3
    have c4 := sread_form (X.extract 0 N) w1 hXs HB1.out.2
    by_cases hlt : N < E0
    · obtain ⟨r1, r2, r3, r4⟩ := HM.out.2.2.2.1 N (by rw [HE0.out]; exact hlt)
      rw [r1, r2, r3, r4] at c4
      have C4 := Lib.hid c4
      clear r1 r2 r3 r4 c4
      have dlt : decide (N < E0) = true := decide_eq_true hlt
      go_wp2_with fail
      refine C4.out.mono ?_
      rintro e w3 ⟨v3, rfl, hr3, hb3⟩
      obtain ⟨a3, e3, rfl, -, -, -⟩ := hr3
      have hZ0 := (hb3.cell (p := ⟨zb, zo + 0, none⟩) zlt).trans (HZ.out 0 (Nat.zero_le _))
      rw [HE0.out] at hZ0
      have hS3 := HB1.out.2.below hb3
      have hB3 := HB1.out.1.trans (hb3.mono HB1.out.1.size)
      have hal : Below w3.heap.size w3 (w3.alloc (.cells #[.bool false, .string ⟨#[]⟩, .slice a3 0 e3, .int .i64 0] 36)) := (Below.refl _ _).alloc (Nat.le_refl _) _
      have zl3 : zb < w3.heap.size := Nat.lt_of_lt_of_le zlt hb3.size
      have hS4 := hS3.below hal
      have hB4 := hB3.trans (hal.mono hB3.size)
      have HB4 := Lib.hid (And.intro hB4 hS4)
      clear hal hb3 hS3 hB3 hB4 hS4
      simp only [Nat.add_zero, List.length_nil] at hZ0 ⊢
      go_wp2_with fail
      refine (lawHead_any _ HB4.out.2).mono ?_
      rintro e w5 ⟨rfl, hb5⟩
      go_wp2_with fail
      go_ret
      exact ⟨rfl, HB4.out.1.trans (hb5.mono HB4.out.1.size)⟩
    · obtain ⟨M, m1, m2, m3⟩ := HM.out.2.1 N (by rw [HE0.out]; omega) l.length (Nat.le_refl _)
      obtain ⟨r1, r2, r3, r4⟩ := HM.out.2.2.1 N M m1 m2 m3
      have hlM : (l.take M).length = M := by rw [List.length_take]; omega
      obtain ⟨EM, hEM⟩ : ∃ EM, E M = EM := ⟨_, rfl⟩
      rw [r1, r2, r3, r4, hEM] at c4
      have C4 := Lib.hid c4
      have HEM := Lib.hid hEM
      have HLM := Lib.hid hlM
      have HM3 := Lib.hid m3
      clear r1 r2 r3 r4 c4 hlM hEM m3
      have dlt : decide (N < E0) = false := decide_eq_false hlt
      have HZ0 := HZ.out 0 (Nat.zero_le _)
      rw [HE0.out] at HZ0
      go_wp2_with fail
      refine C4.out.mono ?_
      rintro e w3 ⟨v3, rfl, hr3, hb3⟩
      obtain ⟨a3, e3, rfl, t1, t2, t3⟩ := hr3
      rw [HLM.out] at t1 t3 ⊢
      have hZ3 : ∀ i, i ≤ l.length → w3.cell? ⟨zb, zo + i, none⟩ = some (.int .i64 (E i : Int)) := fun i hi => (hb3.cell (p := ⟨zb, zo + i, none⟩) zlt).trans (HZ.out i hi)
      have hS3 := HB1.out.2.below hb3
      have hB3 := HB1.out.1.trans (hb3.mono HB1.out.1.size)
      have hal : Below w3.heap.size w3 (w3.alloc (.cells #[.bool true, .string s, .slice a3 M e3, .int .i64 (EM : Int)] 36)) := (Below.refl _ _).alloc (Nat.le_refl _) _
      have k4 : Blk (w3.alloc (.cells #[.bool true, .string s, .slice a3 M e3, .int .i64 (EM : Int)] 36)) w3.heap.size 36 [.bool true, .string s, .slice a3 M e3, .int .i64 (EM : Int)] := Blk.new w3 _ [_, _, _, _]
      have zl3 : zb < w3.heap.size := Nat.lt_of_lt_of_le zlt hb3.size
      have HZ4 : ∀ i, i ≤ l.length → (w3.alloc (.cells #[.bool true, .string s, .slice a3 M e3, .int .i64 (EM : Int)] 36)).cell? ⟨zb, zo + i, none⟩ = some (.int .i64 (E i : Int)) := fun i hi => (hal.cell (p := ⟨zb, zo + i, none⟩) zl3).trans (hZ3 i hi)
      have hT3 : 0 < M → ∃ b off, a3 = some ⟨b, off, none⟩ ∧ b < w3.heap.size ∧ ∀ (j : Nat) (r : Nat × ByteArray), (l.take M)[j]? = some r → w3.cell? ⟨b, off + j * 2, none⟩ = some (.int .u8 (r.1 : Int)) ∧ w3.cell? ⟨b, off + j * 2 + 1, none⟩ = some (.string r.2) := t3
      have hS4 := hS3.below hal
      have hB4 := hB3.trans (hal.mono hB3.size)
      obtain ⟨K, hK⟩ : ∃ K, w3.heap.size = K := ⟨_, rfl⟩
      obtain ⟨w4, hw4⟩ : ∃ w4, w3.alloc (.cells #[.bool true, .string s, .slice a3 M e3, .int .i64 (EM : Int)] 36) = w4 := ⟨_, rfl⟩
      rw [hw4] at k4 hS4 hB4 HZ4 hal
      rw [hK] at k4
      have HB4 := Lib.hid (And.intro hB4 (And.intro hS4 (And.intro hal hT3)))
      have HZ := Lib.hid HZ4
      have zl4 : zb < w4.heap.size := Nat.lt_of_lt_of_le zl3 hal.size
      clear hal hb3 hZ3 hS3 hB3 zl3 zlt hB4 hS4 HZ4 t3 hT3 HZ0
      have hZ0 := HZ.out 0 (Nat.zero_le _)
      have hZM := HZ.out M m1
      rw [HE0.out] at hZ0
      rw [HEM.out] at hZM
      have e0 := k4.cell 0
      have e1 := k4.cell 1
      have e2 := k4.cell 2
      have e3' := k4.cell 3
      unfold maxLen at t2
      simp only [List.getElem?_cons_zero, List.getElem?_cons_succ, Nat.add_zero] at e0 e1 e2 e3' hZ0
      go_wp2_with fail
      clear hw4 hK q1 q3 zi0 hZ0
      go_loop [12] (fun i => ∃ m : Nat, m ≤ M ∧ i = .int .i64 (m : Int)) (fun i => M - (intOf i).toNat)
      case atStart => exact ⟨0, Nat.zero_le _, rfl⟩
      case round =>
        obtain ⟨m, hm, rfl⟩ := hrel
        by_cases hmM : m < M
        · have hz := HZ.out (m + 1) (by omega)
          have hle : E (m + 1) ≤ N := Nat.le_trans (HM.out.1 (m + 1) M (by omega) m1) m2
          generalize E (m + 1) = e1 at *
          have dd1 : decide (m < l.length) = true := by rw [decide_eq_true_eq]; omega
          have dd2 : decide (e1 ≤ N) = true := decide_eq_true hle
          have hml : m < l.length := by omega
          have hz2 : w4.cell? ⟨zb, zo + m + 1, none⟩ = some (.int .i64 (e1 : Int)) := hz
          go_wp2_with fail
          go_round
          case rel => exact ⟨m + 1, by omega, by go_num⟩
          case measure => simp [intOf]; omega
        · obtain rfl : m = M := by omega
          have hstop : ∀ P : Prop, (m < l.length → (∃ f1 : Nat, w4.cell? ⟨zb, zo + (m + 1), none⟩ = some (.int .i64 (f1 : Int)) ∧ N < f1) → P) → (¬ m < l.length → P) → P := fun P h1 h2 => by
            by_cases hml : m < l.length
            · exact h1 hml ⟨E (m + 1), HZ.out (m + 1) (by omega), HM3.out hml⟩
            · exact h2 hml
          refine hstop _ (fun hml hx => ?_) (fun hml => ?_)
          · obtain ⟨f1, hz, hlt1⟩ := hx
            have hx : True := trivial
            have dd1 : decide (m < l.length) = true := decide_eq_true hml
            have dd2 : decide (f1 ≤ N) = false := decide_eq_false (by omega)
            have hz2 : w4.cell? ⟨zb, zo + m + 1, none⟩ = some (.int .i64 (f1 : Int)) := hz
            clear hstop
            go_wp2_with fail
            clear hz hz2
            go_region
            have HBD : Hid (Below w4.heap.size w4 w4.drew) := Lib.hid (Below.refl _ _).drew
            go_wp2_with fail
            go_loopw [13] (fun i wr => ∃ j : Nat, j ≤ m ∧ i = .int .i64 (j : Int) ∧ Hid (Below w4.heap.size w4 wr)) (fun i _ => m - (intOf i).toNat)
            case atStart => exact ⟨0, Nat.zero_le _, rfl, HBD⟩
            case round =>
              clear hZM e0 e1 e2 e3'
              obtain ⟨j, hj, rfl, HR2⟩ := hrel
              have k5 := k4.below HR2.out k4.lt
              have e2 := k5.cell 2
              have el := k5.lt
              simp only [List.getElem?_cons_zero, List.getElem?_cons_succ] at e2
              by_cases hjm : j < m
              · have dd3 : decide (j < m) = true := decide_eq_true hjm
                obtain ⟨b1, o1, rfl, hb1, hc1⟩ := HB4.out.2.2.2 (by omega)
                obtain ⟨b2, o2, rfl, hb2, hc2⟩ := HG.out (by omega)
                obtain ⟨⟨k, d⟩, hr⟩ : ∃ r, l[j]? = some r := ⟨_, List.getElem?_eq_getElem (by omega)⟩
                have hr' : (l.take m)[j]? = some (k, d) := by rw [List.getElem?_take_of_lt hjm]; exact hr
                have hw1 := HB4.out.2.2.1.trans (HR2.out.mono HB4.out.2.2.1.size)
                have hw2 := HB4.out.1.trans (HR2.out.mono HB4.out.1.size)
                have x1 := (hw1.cell (p := ⟨b1, o1 + j * 2, none⟩) hb1).trans (hc1 j _ hr').1
                have x2 := (hw1.cell (p := ⟨b1, o1 + j * 2 + 1, none⟩) hb1).trans (hc1 j _ hr').2
                have y1 := (hw2.cell (p := ⟨b2, o2 + j * 2, none⟩) hb2).trans (hc2 j _ hr).1
                have y2 := (hw2.cell (p := ⟨b2, o2 + j * 2 + 1, none⟩) hb2).trans (hc2 j _ hr).2
                simp only [] at x1 x2 y1 y2
                have hdd : (d.toList == d.toList) = true := by simp
                have HBE := Lib.hid HR2.out.drew
                clear hr hr' hc1 hc2 hw1 hw2 k5 hx
                go_wp2_with fail
                go_region
                go_wp2_with fail
                go_roundw
                first
                  | exact ⟨⟨j + 1, by omega, by go_num, HBE⟩, by simp [intOf]; omega⟩
                  | (case rel => exact ⟨j + 1, by omega, by go_num, HBE⟩
                     case measure => simp [intOf]; omega)
              · have dd3 : decide (j < m) = false := decide_eq_false hjm
                clear hx
                go_wp2_with fail
                refine (lawHead_any _ (HB4.out.2.1.below HR2.out)).mono ?_
                rintro e w5 ⟨rfl, hb5⟩
                go_wp2_with fail
                go_ret
                exact ⟨rfl, HB4.out.1.trans ((HR2.out.trans (hb5.mono HR2.out.size)).mono HB4.out.1.size)⟩
          · have dd1 : decide (m < l.length) = false := decide_eq_false hml
            have hx : True := trivial
            clear hstop
            go_wp2_with fail
            go_region
            have HBD : Hid (Below w4.heap.size w4 w4.drew) := Lib.hid (Below.refl _ _).drew
            go_wp2_with fail
            go_loopw [13] (fun i wr => ∃ j : Nat, j ≤ m ∧ i = .int .i64 (j : Int) ∧ Hid (Below w4.heap.size w4 wr)) (fun i _ => m - (intOf i).toNat)
            case atStart => exact ⟨0, Nat.zero_le _, rfl, HBD⟩
            case round =>
              clear hZM e0 e1 e2 e3'
              obtain ⟨j, hj, rfl, HR2⟩ := hrel
              have k5 := k4.below HR2.out k4.lt
              have e2 := k5.cell 2
              have el := k5.lt
              simp only [List.getElem?_cons_zero, List.getElem?_cons_succ] at e2
              by_cases hjm : j < m
              · have dd3 : decide (j < m) = true := decide_eq_true hjm
                obtain ⟨b1, o1, rfl, hb1, hc1⟩ := HB4.out.2.2.2 (by omega)
                obtain ⟨b2, o2, rfl, hb2, hc2⟩ := HG.out (by omega)
                obtain ⟨⟨k, d⟩, hr⟩ : ∃ r, l[j]? = some r := ⟨_, List.getElem?_eq_getElem (by omega)⟩
                have hr' : (l.take m)[j]? = some (k, d) := by rw [List.getElem?_take_of_lt hjm]; exact hr
                have hw1 := HB4.out.2.2.1.trans (HR2.out.mono HB4.out.2.2.1.size)
                have hw2 := HB4.out.1.trans (HR2.out.mono HB4.out.1.size)
                have x1 := (hw1.cell (p := ⟨b1, o1 + j * 2, none⟩) hb1).trans (hc1 j _ hr').1
                have x2 := (hw1.cell (p := ⟨b1, o1 + j * 2 + 1, none⟩) hb1).trans (hc1 j _ hr').2
                have y1 := (hw2.cell (p := ⟨b2, o2 + j * 2, none⟩) hb2).trans (hc2 j _ hr).1
                have y2 := (hw2.cell (p := ⟨b2, o2 + j * 2 + 1, none⟩) hb2).trans (hc2 j _ hr).2
                simp only [] at x1 x2 y1 y2
                have hdd : (d.toList == d.toList) = true := by simp
                have HBE := Lib.hid HR2.out.drew
                clear hr hr' hc1 hc2 hw1 hw2 k5 hx
                go_wp2_with fail
                go_region
                go_wp2_with fail
                go_roundw
                first
                  | exact ⟨⟨j + 1, by omega, by go_num, HBE⟩, by simp [intOf]; omega⟩
                  | (case rel => exact ⟨j + 1, by omega, by go_num, HBE⟩
                     case measure => simp [intOf]; omega)
              · have dd3 : decide (j < m) = false := decide_eq_false hjm
                clear hx
                go_wp2_with fail
                refine (lawHead_any _ (HB4.out.2.1.below HR2.out)).mono ?_
                rintro e w5 ⟨rfl, hb5⟩
                go_wp2_with fail
                go_ret
                exact ⟨rfl, HB4.out.1.trans ((HR2.out.trans (hb5.mono HR2.out.size)).mono HB4.out.1.size)⟩
theorem storeCut_walk (s : ByteArray) (a : Option Addr) (len cap : Nat) (rows : List (List Value)) (at_ : Int) (w : World) (hs : s.size ≤ maxLen) (hrow : IsRecs w a len cap 2 rows)
    (hpr : ∀ r ∈ rows, ∃ (x0 : Int) (x1 : ByteArray), r = [.int .u8 x0, .string x1] ∧ (Lit.int .u8 x0).wf = true ∧ x1.size ≤ maxLen) (h0 : 0 ≤ at_) (h1 : at_ < 65536) (hsh : Shifts w) :
    Calls Tryd.prog 5 #[.string s, .slice a len cap, .int .u16 at_] w fun e w' => e = .returned (.bool true) ∧ Below w.heap.size w w' := by
  obtain ⟨A, rfl⟩ := Int.eq_ofNat_of_zero_le h0
  obtain ⟨h2, h3⟩ := Rs.recs hrow hpr
  by_cases hlet : Few s (rows.map rowOf) ∧ Kinds (rows.map rowOf)
  · exact storeCut_main s _ _ A w (by omega) h2 h3 hsh hlet.1 hlet.2
  · exact storeCut_let s _ _ A w hs h2 h3 hsh hlet
end Go.Proofs.YtaknmionaibodaaDoor.Store
