/-
StoreTurned: where bytes of one record's Data and its rest are turned, any of seven behind one another, Read tells just the records ahead of it; heads of more than 300 bytes, and more than 20 records or records of more than 300 bytes, are let go, and masks that turn nothing. No condition.
-/
import Derived.Test.YtaknmionaibodaaDoorStoreLaid
import Derived.StillTailTactics
namespace Go.Proofs.YtaknmionaibodaaDoor.Store
open Go.RowKit Notch

theorem and56 (n : Int) (h0 : 0 ≤ n) (h1 : n < 18446744073709551616) : bits .and .u64 n 72057594037927935 = n % 72057594037927936 := mask_u64 56 n _ (by decide) (by decide) h0 h1
theorem bytesV_set (l : List UInt8) (z : List Value) (i : Nat) (b : UInt8) (h : i < l.length) : (bytesV l ++ z).set i (.int .u8 (b.toNat : Int)) = bytesV (l.set i b) ++ z := by
  rw [List.set_append_left _ _ (by rw [bytesV_length]; exact h)]
  simp [bytesV, List.map_set]
theorem flip_val (x : UInt8) (M i : Nat) : bits .xor .u8 (x.toNat : Int) ((M : Int) / 2 ^ (8 * i) % 256) = ((x ^^^ UInt8.ofNat (M / 256 ^ i)).toNat : Int) := by
  have e : (M : Int) / 2 ^ (8 * i) % 256 = ((M / 256 ^ i % 256 : Nat) : Int) := by
    rw [show (256 : Nat) ^ i = 2 ^ (8 * i) by rw [Nat.pow_mul]]
    simp
  rw [e, u8_xor_nat _ _ x.toNat_lt (Nat.mod_lt _ (by decide)), UInt8.toNat_xor]
  simp
theorem below_drewN2 {B : Nat} {a w : World} (h : Below B a w) (n : Nat) : Below B a (w.drewN n) := ⟨h.os, h.tape, h.output, h.size, h.block⟩
theorem int_mod' (a b : Nat) : ((a : Int) % (b : Int)) = ((a % b : Nat) : Int) := (Int.natCast_emod a b).symm
set_option maxRecDepth 100000 in
set_option maxHeartbeats 2000000 in
theorem storeTurned_let (s : ByteArray) (v : Value) (l : List (Nat × ByteArray)) (A M : Nat) (w : World) (hM : M < 18446744073709551616) (hs : s.size ≤ maxLen) (h : Rs w v l) (hv : ∀ r ∈ l, r.1 < 256 ∧ r.2.size ≤ maxLen) (hsh : Shifts w) (hlet : ¬ (Few s l ∧ Kinds l ∧ 0 < l.length ∧ M % 72057594037927936 ≠ 0)) :
    Calls Tryd.prog 6 #[.agg #[.string s, v, .int .u16 (A : Int), .int .u64 (M : Int)]] w fun e w' => e = .returned (.bool true) ∧ Below w.heap.size w w' := by
  have hal := (Below.refl w.heap.size w).alloc (Nat.le_refl _) (.cells #[.string s, v, .int .u16 (A : Int), .int .u64 (M : Int)] 47)
  have HS := Lib.hid (hsh.below hal)
  have ha := and56 (M : Int) (by omega) (by omega)
  have hm0 : ((M : Int) % 72057594037927936) = ((M % 72057594037927936 : Nat) : Int) := by omega
  rw [hm0] at ha
  generalize M % 72057594037927936 = m0 at *
  have H := Lib.hid (h.below hal)
  have HAL := Lib.hid hal
  clear hal hm0 hsh
  obtain ⟨av, cv, rfl, -, -, -⟩ := h
  by_cases hf : Few s l
  · have c1 := Lib.hid (great_no s _ l _ H.out hf)
    by_cases hl0 : l.length = 0
    · have hd : ((l.length : Int) == 0) = true := by rw [beq_iff_eq]; omega
      unfold maxLen at hs
      clear hv hf hlet hl0
      go_enter Tryd.func6, Tryd.ntmps6
      go_wp2_with fail
      refine c1.out.mono ?_
      rintro e w1 ⟨rfl, rfl⟩
      go_wp2_with fail
      refine (lawHead_any _ HS.out).mono ?_
      rintro e w1 ⟨rfl, hb1⟩
      go_wp2_with fail
      go_ret
      exact ⟨rfl, HAL.out.trans (hb1.mono HAL.out.size)⟩
    have hd : ((l.length : Int) == 0) = false := by rw [beq_eq_false_iff_ne]; omega
    by_cases hm : m0 = 0
    · have hz : ((m0 : Int) == 0) = true := by rw [beq_iff_eq]; omega
      unfold maxLen at hs
      clear hv hf hlet hl0 hm
      go_enter Tryd.func6, Tryd.ntmps6
      go_wp2_with fail
      refine c1.out.mono ?_
      rintro e w1 ⟨rfl, rfl⟩
      go_wp2_with fail
      refine (lawHead_any _ HS.out).mono ?_
      rintro e w1 ⟨rfl, hb1⟩
      go_wp2_with fail
      go_ret
      exact ⟨rfl, HAL.out.trans (hb1.mono HAL.out.size)⟩
    have hz : ((m0 : Int) == 0) = false := by rw [beq_eq_false_iff_ne]; omega
    have c2 := Lib.hid (laid_any s _ l _ H.out hf (fun r hr => (hv r hr).1) HS.out)
    have HK := Lib.hid (show ¬ Kinds l from fun hk => hlet ⟨hf, hk, by omega, hm⟩)
    unfold maxLen at hs
    clear hv hf hlet hl0
    go_enter Tryd.func6, Tryd.ntmps6
    go_wp2_with fail
    refine c1.out.mono ?_
    rintro e w1 ⟨rfl, rfl⟩
    go_wp2_with fail
    refine c2.out.mono ?_
    intro e w1 hl1
    obtain ⟨rfl, hb1⟩ := hl1.no HK.out
    have hS1 := HS.out.below hb1
    clear hl1
    go_wp2_with fail
    refine (lawHead_any _ hS1).mono ?_
    rintro e w3 ⟨rfl, hb3⟩
    go_wp2_with fail
    go_ret
    exact ⟨rfl, HAL.out.trans ((hb1.trans (hb3.mono hb1.size)).mono HAL.out.size)⟩
  · have c1 := Lib.hid (great_yes s _ l _ hs H.out (fun r hr => (hv r hr).2) hf)
    unfold maxLen at hs
    clear hv hf hlet
    go_enter Tryd.func6, Tryd.ntmps6
    go_wp2_with fail
    refine c1.out.mono ?_
    rintro e w1 ⟨rfl, rfl⟩
    go_wp2_with fail
    refine (lawHead_any _ HS.out).mono ?_
    rintro e w1 ⟨rfl, hb1⟩
    go_wp2_with fail
    go_ret
    exact ⟨rfl, HAL.out.trans (hb1.mono HAL.out.size)⟩
set_option maxRecDepth 100000 in
set_option maxHeartbeats 4000000 in
theorem storeTurned_main (s : ByteArray) (v : Value) (l : List (Nat × ByteArray)) (A M : Nat) (w : World) (hA : A < 65536) (hM : M < 18446744073709551616) (h : Rs w v l) (hv : ∀ r ∈ l, r.1 < 256 ∧ r.2.size ≤ maxLen) (hsh : Shifts w) (hf : Few s l) (hk : Kinds l) (hl0 : 0 < l.length) (hm0 : M % 72057594037927936 ≠ 0) :
    Calls Tryd.prog 6 #[.agg #[.string s, v, .int .u16 (A : Int), .int .u64 (M : Int)]] w fun e w' => e = .returned (.bool true) ∧ Below w.heap.size w w' := by
  have hv1 := fun r hr => (hv r hr).1
  obtain ⟨J, hJ, hJl⟩ : ∃ J, A % l.length = J ∧ J < l.length := ⟨_, rfl, Nat.mod_lt _ hl0⟩
  obtain ⟨⟨k, d⟩, hr⟩ : ∃ r, l[J]? = some r := ⟨_, List.getElem?_eq_getElem hJl⟩
  have hr' : l[J] = (k, d) := by have := List.getElem?_eq_getElem hJl; rw [hr] at this; exact (Option.some.inj this).symm
  have hds := hf.2.2 _ (List.mem_of_getElem? hr)
  have hsucc := endK_succ s l J hJl
  have hps := put_size k d
  rw [hr'] at hsucc
  simp only [] at hds hsucc
  have hpd : d.size + 8 ≤ (putS k d).size := by
    rw [hps, encT, List.length_append, List.length_append, size_list]; omega
  have hlast := endK_last s l
  have hendle : endK s l (J + 1) ≤ (laidB s l).size := by
    rw [← hlast]
    have : ∀ n, J + 1 ≤ n → n ≤ l.length → endK s l (J + 1) ≤ endK s l n := by
      intro n h1
      induction n with
      | zero => omega
      | succ n ih =>
        intro h2
        by_cases hn : J + 1 = n + 1
        · rw [hn]; exact Nat.le_refl _
        · have := ih (by omega) (by omega)
          rw [endK_succ s l n (by omega)]
          omega
    exact this _ (by omega) (Nat.le_refl _)
  have hturn := fun x n hx h1 h2 => read_facts (read_turned x s l J n M (by have := hf.1; omega) (valid_of hf hk) hJl hm0 hx h1 h2)
  simp only [hr'] at hturn
  have hal := (Below.refl w.heap.size w).alloc (Nat.le_refl _) (.cells #[.string s, v, .int .u16 (A : Int), .int .u64 (M : Int)] 47)
  have kB : Blk (w.alloc (.cells #[.string s, v, .int .u16 (A : Int), .int .u64 (M : Int)] 47)) w.heap.size 47 [.string s, v, .int .u16 (A : Int), .int .u64 (M : Int)] := Blk.new w _ [_, _, _, _]
  obtain ⟨W0, hW0⟩ : ∃ W0, w.alloc (.cells #[.string s, v, .int .u16 (A : Int), .int .u64 (M : Int)] 47) = W0 := ⟨_, rfl⟩
  rw [hW0] at hal kB
  have hWW := Lib.hid hW0
  have HS := Lib.hid (hsh.below hal)
  have H := Lib.hid (h.below hal)
  have HAL := Lib.hid hal
  have c1 := Lib.hid (great_no s v l W0 H.out hf)
  have d2 := laid_yes s v l W0 H.out hf hv1 hk HS.out
  have hB := laid_small s l hf hv1
  have hlen := hf.2.1
  have hget := fun i hi => endsL_get s l l.length i hi
  have hel := endsL_length s l l.length
  generalize laidB s l = X at *
  generalize endsL s l l.length = L at *
  generalize endK s l = E at *
  generalize (putS k d).size = ps at *
  have ha := and56 (M : Int) (by omega) (by omega)
  have hmm : ((M : Int) % 72057594037927936) = ((M % 72057594037927936 : Nat) : Int) := by omega
  rw [hmm] at ha
  have hz : (((M % 72057594037927936 : Nat) : Int) == 0) = false := by rw [beq_eq_false_iff_ne]; omega
  generalize M % 72057594037927936 = m0 at *
  obtain ⟨E1, hE1⟩ : ∃ E1, E (J + 1) = E1 := ⟨_, rfl⟩
  obtain ⟨E0, hE0⟩ : ∃ E0, E J = E0 := ⟨_, rfl⟩
  rw [hE1] at hendle hsucc hturn
  rw [hE0] at hsucc
  obtain ⟨Fi, hFi⟩ : ∃ Fi, Fi + 8 + d.size = E1 := ⟨E1 - 8 - d.size, by omega⟩
  obtain ⟨R, hR, hR2⟩ : ∃ R, A / 7 % (E1 - Fi - 6) = R ∧ R < E1 - Fi - 6 := ⟨_, rfl, Nat.mod_lt _ (by omega)⟩
  obtain ⟨n, hn⟩ : ∃ n, Fi + R = n := ⟨_, rfl⟩
  have q1 : (A : Int) % (l.length : Int) = (J : Int) := by rw [int_mod', hJ]
  have q2 : (E1 : Int) - 8 - (d.size : Int) = (Fi : Int) := by omega
  have q3 : (A : Int) / 7 % ((E1 : Int) - (Fi : Int) - 6) = (R : Int) := by
    rw [← hR, ← int_mod', Int.natCast_ediv, show ((E1 - Fi - 6 : Nat) : Int) = (E1 : Int) - (Fi : Int) - 6 by omega]
    rfl
  have q4 : (Fi : Int) + (R : Int) = (n : Int) := by omega
  have hn7 : n + 7 ≤ X.size := by omega
  obtain ⟨F, hF⟩ : ∃ F : ByteArray, F = ⟨(flipL X.data.toList n M 7).toArray⟩ := ⟨_, rfl⟩
  have hFl : F.data.toList = flipL X.data.toList n M 7 := by rw [hF]
  obtain ⟨r1, r2, r3, r4⟩ := hturn F n hFl (by omega) (by omega)
  have d1 : decide (Fi < E0) = false := decide_eq_false (by omega)
  have d3 : decide (X.size < E1) = false := decide_eq_false (by omega)
  have hFs : F.size = X.size := by rw [← size_list, hFl, flipL_length, size_list]
  have c4 := fun w h => sread_form F w (by omega) h
  rw [r1, r2, r3, hE0, r4] at c4
  have hlJ : (l.take J).length = J := by rw [List.length_take]; omega
  have hML : X.data.toList.length = X.size := size_list X
  have HF := Lib.hid (And.intro hF hFs)
  have C4 := Lib.hid c4
  have D2 := Lib.hid d2
  have HL := Lib.hid (And.intro hel hget)
  have HJ := Lib.hid hr
  have HLJ := Lib.hid hlJ
  have HE := Lib.hid (And.intro hE1 hE0)
  have HML := Lib.hid hML
  have HJA := Lib.hid (And.intro hJ hFi)
  have HNR := Lib.hid (And.intro hn hR)
  have hd0 : ((l.length : Int) == 0) = false := by rw [beq_eq_false_iff_ne]; omega
  clear hv hv1 hJ hr hr' hsucc hlast hturn hal h hf hk hget hel hmm hm0 hE1 hE0 hFi hR hn hF hFl r1 r2 r3 r4 hFs c4 hlJ hML d2 hps hpd hW0 hsh
  obtain ⟨av, cv, rfl, pl1, pl2, hg⟩ := H.out
  obtain ⟨bb, bo, rfl, hbb, hbc⟩ := hg hl0
  have hdc := (hbc J _ HJ.out).2
  simp only [] at hdc
  unfold maxLen at pl2
  have HG := Lib.hid (And.intro hbb hbc)
  obtain ⟨B, hB0⟩ : ∃ B, w.heap.size = B := ⟨_, rfl⟩
  rw [hB0] at kB
  have b0 := kB.cell 0
  have b1 := kB.cell 1
  have b2 := kB.cell 2
  have b3 := kB.cell 3
  simp only [List.getElem?_cons_zero, List.getElem?_cons_succ] at b0 b1 b2 b3
  have hBlt := kB.lt
  clear hbc hg
  have hW0' : w.alloc (.cells #[.string s, .slice (some ⟨bb, bo, none⟩) l.length cv, .int .u16 (A : Int), .int .u64 (M : Int)] 47) = W0 := hWW.out
  go_enter Tryd.func6, Tryd.ntmps6
  go_wp2_with fail
  clear hW0'
  refine c1.out.mono ?_
  rintro e W1 ⟨rfl, rfl⟩
  go_wp2_with fail
  refine D2.out.mono ?_
  rintro e w2 ⟨v1, rfl, hz1, hb1⟩
  have hS2 := HS.out.below hb1
  have kB2 := kB.below hb1 kB.lt
  have hB2 := HAL.out.trans (hb1.mono HAL.out.size)
  have hdc2 := (hb1.cell (p := ⟨bb, bo + J * 2 + 1, none⟩) HG.out.1).trans hdc
  have hBlt2 := kB2.lt
  obtain ⟨az, cz, rfl, z1, z2, z3⟩ := hz1
  rw [HL.out.1] at z1 z3 ⊢
  obtain ⟨zb, zo, rfl, zlt, zc⟩ := z3 (by omega)
  have zE1 := zc (J + 1) _ (HL.out.2 (J + 1) (by omega))
  have zE0 := zc J _ (HL.out.2 J (by omega))
  rw [HE.out.1] at zE1
  rw [HE.out.2] at zE0
  have zE1' : w2.cell? ⟨zb, zo + J + 1, none⟩ = some (.int .i64 (E1 : Int)) := zE1
  unfold maxLen at z2
  have HB1 := Lib.hid hb1
  have HB2 := Lib.hid (And.intro hB2 hS2)
  have HZ0 := Lib.hid zE0
  clear hB2 hS2 zc z3 hb1 hdc b0 b1 b2 b3
  have b0 := kB2.cell 0
  have b1 := kB2.cell 1
  have b2 := kB2.cell 2
  have b3 := kB2.cell 3
  simp only [List.getElem?_cons_zero, List.getElem?_cons_succ] at b0 b1 b2 b3
  obtain ⟨cap, W3, hcv, hc1, hc2, hsz1, hblk, hbel⟩ := str_bytes (P := Tryd.prog) w2 9 48 5 X Tryd.underlying9 Tryd.underlying48 Tryd.underlying5 (by unfold maxLen; omega)
  unfold maxLen at hc2
  have HBK : Hid (Blk W3 w2.heap.size 5 (bytesV (flipL X.data.toList n M 0) ++ List.replicate (cap - X.size) (.int .u8 0))) := by rw [flipL_zero]; exact hblk
  have HBL := Lib.hid hbel
  obtain ⟨g, hg⟩ : ∃ g, w2.heap.size = g := ⟨_, rfl⟩
  have HGG := Lib.hid hg
  rw [hg] at HBK hcv
  clear hblk hsz1 hbel
  go_wp2_with fail
  simp only [q1]
  clear q1 q2 q3 q4 zE1 zE1' zE0 hdc2 b0 b1 b2 b3 hcv hg
  go_loopw [11] (fun i wr => ∃ j : Nat, j ≤ 7 ∧ i = .int .i64 (j : Int) ∧ Hid (Blk wr g 5 (bytesV (flipL X.data.toList n M j) ++ List.replicate (cap - X.size) (.int .u8 0))) ∧ Hid (Below w2.heap.size w2 wr)) (fun i _ => 7 - (intOf i).toNat)
  case atStart => exact ⟨0, by omega, rfl, HBK, HBL⟩
  case round =>
    obtain ⟨j, hj, rfl, hblk, hbr⟩ := hrel
    have kBr := kB2.below hbr.out kB2.lt
    by_cases h7 : j < 7
    · have hx : n + j < X.data.toList.length := by rw [HML.out]; omega
      have hcell := hblk.out.cell (n + j)
      rw [bytesV_get _ _ _ (by rw [flipL_length]; exact hx)] at hcell
      have hgx : (flipL X.data.toList n M j).getD (n + j) 0 = X.data.toList[n + j] := by
        rw [List.getD_eq_getElem?_getD, flipL_out _ _ _ _ _ (by omega), List.getElem?_eq_getElem hx]
        rfl
      rw [hgx] at hcell
      have hfr := hblk.out.frozen (n + j) (by rw [List.length_append, bytesV_length, flipL_length]; omega)
      have hnew := hblk.out.set_ (n + j) (.int .u8 ((X.data.toList[n + j] ^^^ UInt8.ofNat (M / 256 ^ j)).toNat : Int))
      rw [bytesV_set _ _ _ _ (by rw [flipL_length]; exact hx), flipL_set _ _ _ _ hx, ← flip_val] at hnew
      obtain ⟨c, hc⟩ : ∃ c : Int, c = (X.data.toList[n + j].toNat : Int) := ⟨_, rfl⟩
      have c0 : 0 ≤ c := by omega
      have c1 : c < 256 := by have := X.data.toList[n + j].toNat_lt; omega
      rw [← hc] at hcell hnew
      have b3 := kBr.cell 3
      have bl := kBr.lt
      simp only [List.getElem?_cons_zero, List.getElem?_cons_succ] at b3
      have HNEW := Lib.hid hnew
      have hbr2 := Lib.hid (hbr.out.setCell (p := ⟨g, n + j, none⟩) (by show w2.heap.size ≤ g; rw [HGG.out]; exact Nat.le_refl _) (.int .u8 (bits .xor .u8 c ((M : Int) / 2 ^ (8 * j) % 256))))
      clear hnew hgx hx hc
      go_wp2_with fail
      go_region
      have HNEW2 := Lib.hid HNEW.out.drew
      have hbr3 := Lib.hid hbr2.out.drew
      go_wp2_with fail
      exact ⟨⟨j + 1, by omega, by go_num, HNEW2, hbr3⟩, by simp [intOf]; omega⟩
    · obtain rfl : j = 7 := by omega
      have hstr := run_str_of_blk (P := Tryd.prog) (w := wr) 48 9 5 Tryd.underlying48 Tryd.underlying5 Tryd.underlying9 g 0 X.size cap (flipL X.data.toList n M 7) (by rw [flipL_length, HML.out]) _ _ hblk.out
        (by rw [List.drop_zero, List.take_left' (by rw [bytesV_length, flipL_length, HML.out])])
      rw [← HF.out.1] at hstr
      have hS4 := HB2.out.2.below hbr.out
      have c4 := Lib.hid (C4.out wr hS4)
      have hlr := hbr.out.size
      clear hblk
      go_wp2_with fail
      refine c4.out.mono ?_
      rintro e w3 ⟨v3, rfl, hr3, hb3⟩
      obtain ⟨a3, e3, rfl, t1, t2, t3⟩ := hr3
      rw [HLJ.out] at t1 t3 ⊢
      have hb23 := hbr.out.trans (hb3.mono hlr)
      have hZ3 := (hb23.cell (p := ⟨zb, zo + J, none⟩) zlt).trans HZ0.out
      have hS3 := HB2.out.2.below hb23
      have hal : Below w3.heap.size w3 (w3.alloc (.cells #[.bool true, .string s, .slice a3 J e3, .int .i64 (E0 : Int)] 36)) := (Below.refl _ _).alloc (Nat.le_refl _) _
      have k4 : Blk (w3.alloc (.cells #[.bool true, .string s, .slice a3 J e3, .int .i64 (E0 : Int)] 36)) w3.heap.size 36 [.bool true, .string s, .slice a3 J e3, .int .i64 (E0 : Int)] := Blk.new w3 _ [_, _, _, _]
      have zl3 : zb < w3.heap.size := Nat.lt_of_lt_of_le zlt hb23.size
      have hZ4 := (hal.cell (p := ⟨zb, zo + J, none⟩) zl3).trans hZ3
      have kB4 := (kB2.below hb23 kB2.lt).alloc (.cells #[.bool true, .string s, .slice a3 J e3, .int .i64 (E0 : Int)] 36)
      have hb24 := hb23.trans (hal.mono hb23.size)
      have hS4' := hS3.below hal
      have hT3 := t3
      obtain ⟨K, hK⟩ : ∃ K, w3.heap.size = K := ⟨_, rfl⟩
      obtain ⟨w4, hw4⟩ : ∃ w4, w3.alloc (.cells #[.bool true, .string s, .slice a3 J e3, .int .i64 (E0 : Int)] 36) = w4 := ⟨_, rfl⟩
      rw [hw4] at k4 hZ4 kB4 hal hb24 hS4'
      rw [hK] at k4
      have HB4 := Lib.hid (And.intro hb24 (And.intro hS4' (And.intro hal hT3)))
      unfold maxLen at t2
      clear hal hb3 hb23 hZ3 hS3 zl3 hb24 hS4' t3 hT3 hlr hbr hstr
      have e0 := k4.cell 0
      have e1 := k4.cell 1
      have e2 := k4.cell 2
      have e3' := k4.cell 3
      have b1 := kB4.cell 1
      have bl := kB4.lt
      simp only [List.getElem?_cons_zero, List.getElem?_cons_succ] at e0 e1 e2 e3' b1
      go_wp2_with fail
      go_quiet (fail)
      go_wp2_with fail
      go_loopw [13] (fun i wr => ∃ j : Nat, j ≤ J ∧ i = .int .i64 (j : Int) ∧ Hid (Below w4.heap.size w4 wr)) (fun i _ => J - (intOf i).toNat)
      case atStart => exact ⟨0, Nat.zero_le _, rfl, Lib.hid (below_drewN2 (Below.refl _ _) _)⟩
      case round =>
        clear hZ4 e0 e1 e2 e3' b1 hw4 hK
        obtain ⟨j, hj, rfl, HR2⟩ := hrel
        have k5 := k4.below HR2.out k4.lt
        have kB5 := kB4.below HR2.out kB4.lt
        have e2 := k5.cell 2
        have b1 := kB5.cell 1
        have el := k5.lt
        have bl := kB5.lt
        simp only [List.getElem?_cons_zero, List.getElem?_cons_succ] at e2 b1
        by_cases hjm : j < J
        · have dd3 : decide (j < J) = true := decide_eq_true hjm
          obtain ⟨b1', o1, rfl, hb1, hc1⟩ := HB4.out.2.2.2 (by omega)
          obtain ⟨⟨k', d'⟩, hr⟩ : ∃ r, l[j]? = some r := ⟨_, List.getElem?_eq_getElem (by omega)⟩
          have hr' : (l.take J)[j]? = some (k', d') := by rw [List.getElem?_take_of_lt hjm]; exact hr
          have hw1 := HB4.out.2.2.1.trans (HR2.out.mono HB4.out.2.2.1.size)
          have hw2 := HB1.out.trans ((HB4.out.1.trans (HR2.out.mono HB4.out.1.size)).mono HB1.out.size)
          have x1 := (hw1.cell (p := ⟨b1', o1 + j * 2, none⟩) hb1).trans (hc1 j _ hr').1
          have x2 := (hw1.cell (p := ⟨b1', o1 + j * 2 + 1, none⟩) hb1).trans (hc1 j _ hr').2
          have y1 := (hw2.cell (p := ⟨bb, bo + j * 2, none⟩) HG.out.1).trans (HG.out.2 j _ hr).1
          have y2 := (hw2.cell (p := ⟨bb, bo + j * 2 + 1, none⟩) HG.out.1).trans (HG.out.2 j _ hr).2
          simp only [] at x1 x2 y1 y2
          have hdd : (d'.toList == d'.toList) = true := by simp
          have HBE := Lib.hid HR2.out.drew
          clear hr hr' hc1 hw1 hw2 k5 kB5
          go_wp2_with fail
          go_region
          go_wp2_with fail
          go_roundw
          first
            | exact ⟨⟨j + 1, by omega, by go_num, HBE⟩, by simp [intOf]; omega⟩
            | (case rel => exact ⟨j + 1, by omega, by go_num, HBE⟩
               case measure => simp [intOf]; omega)
        · have dd3 : decide (j < J) = false := decide_eq_false hjm
          go_wp2_with fail
          refine (lawHead_any _ (HB4.out.2.1.below HR2.out)).mono ?_
          rintro e w5 ⟨rfl, hb5⟩
          go_wp2_with fail
          go_ret
          exact ⟨rfl, HB2.out.1.trans ((HB4.out.1.trans ((HR2.out.trans (hb5.mono HR2.out.size)).mono HB4.out.1.size)).mono HB2.out.1.size)⟩
theorem storeTurned_walk (s : ByteArray) (a : Option Addr) (len cap : Nat) (rows : List (List Value)) (at_ m : Int) (w : World) (hs : s.size ≤ maxLen) (hrow : IsRecs w a len cap 2 rows)
    (hpr : ∀ r ∈ rows, ∃ (x0 : Int) (x1 : ByteArray), r = [.int .u8 x0, .string x1] ∧ (Lit.int .u8 x0).wf = true ∧ x1.size ≤ maxLen) (h0 : 0 ≤ at_) (h1 : at_ < 65536) (m0 : 0 ≤ m) (m1 : m < 18446744073709551616) (hsh : Shifts w) :
    Calls Tryd.prog 6 #[.agg #[.string s, .slice a len cap, .int .u16 at_, .int .u64 m]] w fun e w' => e = .returned (.bool true) ∧ Below w.heap.size w w' := by
  obtain ⟨A, rfl⟩ := Int.eq_ofNat_of_zero_le h0
  obtain ⟨M, rfl⟩ := Int.eq_ofNat_of_zero_le m0
  obtain ⟨h2, h3⟩ := Rs.recs hrow hpr
  by_cases hlet : Few s (rows.map rowOf) ∧ Kinds (rows.map rowOf) ∧ 0 < (rows.map rowOf).length ∧ M % 72057594037927936 ≠ 0
  · exact storeTurned_main s _ _ A M w (by omega) (by omega) h2 h3 hsh hlet.1 hlet.2.1 hlet.2.2.1 hlet.2.2.2
  · exact storeTurned_let s _ _ A M w (by omega) hs h2 h3 hsh hlet
end Go.Proofs.YtaknmionaibodaaDoor.Store
