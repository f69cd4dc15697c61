/-
The given values of layer 29's head.
-/
import Derived.Test.YtpnllalefpkcjaaGreatDoorStoreGet3
namespace Go.Proofs.YtpnllalefpkcjaaGreatDoor.Store
open Go.RowKit Nat_ Notch
def exH : ByteArray := ⟨#[83, 84, 69, 80, 0, 0, 0, 1, 83, 84, 69, 80, 0]⟩
def exR : ByteArray := ⟨#[1, 3, 1, 3, 97, 98, 99, 1, 1, 3, 1, 3, 97, 98, 99]⟩
def exD : ByteArray := ⟨#[1, 1, 1, 1, 1, 2, 45, 53]⟩
def exS1 : ByteArray := ⟨#[83, 84, 69, 80, 0, 0, 0, 1, 83, 84, 69, 80, 0, 1, 3, 1, 3, 97, 98]⟩
def exS2 : ByteArray := ⟨#[83, 84, 69, 80, 0, 0, 0, 1, 83, 84, 69, 80, 0, 1, 3, 1, 3, 97, 98, 99, 1, 1, 3, 1, 3, 97, 98, 99]⟩
theorem ex1 : headS ⟨#[]⟩ = exH := by decide +kernel
theorem ex2 : putS 3 ⟨#[97, 98, 99]⟩ = exR := by decide +kernel
theorem ex3 : headR exS1 = (⟨#[]⟩, 13) := by decide +kernel
theorem ex4 : recsAt exS1 13 = [] := by decide +kernel
theorem ex5 : headR exS2 = (⟨#[]⟩, 13) := by decide +kernel
theorem ex6 : recsAt exS2 13 = [(3, ⟨#[97, 98, 99]⟩, 28)] := by decide +kernel
theorem ex7 : drawW 1 [(true, 5)] = (exD, 0) := by decide +kernel
theorem ex8 : numR exD false = (1, ⟨#[1, 1, 1, 2, 45, 53]⟩, false) := by decide +kernel
theorem ex9 : numR ⟨#[1, 1, 1, 2, 45, 53]⟩ false = (1, ⟨#[1, 2, 45, 53]⟩, false) := by decide +kernel
theorem ex10 : textR ⟨#[1, 2, 45, 53]⟩ false 65536 = (⟨#[45, 53]⟩, ⟨#[]⟩, false) := by decide +kernel
theorem ex11 : zparV [45, 53] = (true, 5) := by
  have h5 : parseL [53] = 5 := by decide +kernel
  have ht : Lib.trimPrefix [45, 53] [45] = [53] := by decide +kernel
  unfold zparV
  rw [ht, h5, if_pos ⟨by decide, by decide, by decide +kernel, lim_small 5 1 (by decide) (by decide)⟩]
  decide +kernel
theorem ex12 : placeR ⟨#[1, 1, 1, 2, 45, 53]⟩ false = ([(true, 5)], ⟨#[]⟩, false) := by
  unfold placeR
  rw [ex9, if_neg (by decide)]
  show placeF (0 + 1) _ _ = _
  rw [placeF_succ, ex10]
  show (zparV [45, 53] :: [], _) = _
  rw [ex11]
  rfl
theorem ex13 : numR ⟨#[120]⟩ false = (0, ⟨#[]⟩, true) := by decide +kernel
theorem ex14 : placeR ⟨#[]⟩ true = ([], ⟨#[]⟩, true) := by decide +kernel
theorem ex15 : drawW 0 [] ≠ (⟨#[120]⟩, 0) := by decide +kernel
theorem ex16 : headR ⟨#[]⟩ = (⟨#[]⟩, 0) := by decide +kernel
theorem ex17 : exH.size = 13 ∧ exH.extract 0 5 = ⟨#[83, 84, 69, 80, 0]⟩ ∧ exR.size = 15 ∧ exH ++ exR.extract 0 6 = exS1 ∧ exH ++ exR = exS2 := by decide +kernel
theorem ex18 : zdecs true 5 = [45, 53] := by decide +kernel
theorem ex19 : nl 5 = 1 := by decide +kernel
theorem c_head (w : World) (hsh : Shifts w) : Calls Tryz.prog 13 #[.string ⟨#[]⟩] w fun e w' => e = .returned (.tuple #[.string exH, .int .i64 0]) ∧ Below w.heap.size w w' := by
  have h := head_any ⟨#[]⟩ w (by decide) hsh
  have e : headV ⟨#[]⟩ = .tuple #[.string exH, .int .i64 0] := by
    unfold headV
    rw [if_neg (by decide), ex1]
  rw [e] at h
  exact h
theorem c_put (w : World) (hsh : Shifts w) : Calls Tryz.prog 14 #[.agg #[.int .u8 3, .string ⟨#[97, 98, 99]⟩]] w fun e w' => e = .returned (.tuple #[.string exR, .int .i64 0]) ∧ Below w.heap.size w w' := by
  have h := put_any 3 ⟨#[97, 98, 99]⟩ w (by decide) (by decide) hsh
  have e : putV 3 ⟨#[97, 98, 99]⟩ = .tuple #[.string exR, .int .i64 0] := by
    unfold putV
    rw [if_neg (by decide), if_neg (by decide), ex2]
  rw [e] at h
  exact h
theorem c_put4 (w : World) (hsh : Shifts w) : Calls Tryz.prog 14 #[.agg #[.int .u8 4, .string ⟨#[]⟩]] w fun e w' => e = .returned (.tuple #[.string ByteArray.empty, .int .i64 2]) ∧ Below w.heap.size w w' := by
  have h := put_any 4 ⟨#[]⟩ w (by decide) (by decide) hsh
  have e : putV 4 ⟨#[]⟩ = .tuple #[.string ByteArray.empty, .int .i64 2] := by
    unfold putV
    rw [if_pos (by decide)]
  rw [e] at h
  exact h
theorem c_read0 (w : World) (hsh : Shifts w) : Calls Tryz.prog 15 #[.string ⟨#[]⟩] w fun e w' => e = .returned (.agg #[.bool false, .string ⟨#[]⟩, .slice none 0 0, .int .i64 0]) ∧ Below w.heap.size w w' := by
  refine (sread_any ⟨#[]⟩ w (by decide) hsh).mono ?_
  rintro e w' ⟨h | ⟨h, -⟩, hb⟩
  · exact ⟨h.2, hb⟩
  · rw [ex16] at h; exact absurd rfl h
theorem c_read1 (w : World) (hsh : Shifts w) : Calls Tryz.prog 15 #[.string exS1] w fun e w' => ∃ a cap, e = .returned (.agg #[.bool true, .string ⟨#[]⟩, .slice a 0 cap, .int .i64 13]) ∧ Below w.heap.size w w' := by
  refine (sread_any exS1 w (by decide) hsh).mono ?_
  rintro e w' ⟨⟨h, -⟩ | ⟨h, v, he, hr⟩, hb⟩
  · rw [ex3] at h; exact absurd h (by decide)
  · rw [ex3, ex4] at hr he
    obtain ⟨a, c, rfl⟩ := own_slice hr
    exact ⟨a, c, he, hb⟩
theorem c_read2 (w : World) (hsh : Shifts w) : Calls Tryz.prog 15 #[.string exS2] w fun e w' => ∃ b cap, e = .returned (.agg #[.bool true, .string ⟨#[]⟩, .slice (some ⟨b, 0, none⟩) 1 cap, .int .i64 28]) ∧ 1 ≤ cap ∧ b < w'.heap.size ∧ w'.cell? ⟨b, 0, none⟩ = some (.int .u8 3) ∧ w'.cell? ⟨b, 1, none⟩ = some (.string ⟨#[97, 98, 99]⟩) ∧ Below w.heap.size w w' := by
  refine (sread_any exS2 w (by decide) hsh).mono ?_
  rintro e w' ⟨⟨h, -⟩ | ⟨h, v, he, hr⟩, hb⟩
  · rw [ex5] at h; exact absurd h (by decide)
  · rw [ex5, ex6] at hr he
    obtain ⟨-, ⟨rfl, hn⟩ | ⟨g, cap, cur, rfl, hB, hg, hnc, hcm, hcs, htk⟩⟩ := hr
    · exact absurd hn (by decide)
    · have h0 := congrArg (fun l => l[0]?) htk
      have h1 := congrArg (fun l => l[1]?) htk
      simp only [flatR, List.flatMap_cons, List.flatMap_nil, List.length_singleton] at h0 h1
      refine ⟨g, cap, he, hnc, (Array.getElem?_eq_some_iff.1 hg).1, ?_, ?_, hb⟩
      · simpa [World.cell?, hg, List.getElem?_take] using h0
      · simpa [World.cell?, hg, List.getElem?_take] using h1
theorem c_of (w : World) : Calls Tryz.prog 16 #[.int .i64 (-5)] w fun e w' => ∃ a c, e = .returned (.agg #[.bool true, .slice a 1 c]) ∧ NN w.heap.size w' (.slice a 1 c) 5 ∧ Below w.heap.size w w' := by
  have h := zof_small (-5) w (by decide) (by decide)
  have e : (-5 : Int).natAbs = 5 := rfl
  rw [e, ex19] at h
  exact h
theorem c_draw (a : Option Addr) (c : Nat) (w0 w : World) (hn : NN w0.heap.size w (.slice a 1 c) 5) :
    Calls Tryz.prog 6 #[.agg #[.slice (some ⟨w.heap.size, 0, none⟩) 1 1, .int .u8 1]] (w.alloc (.cells #[.bool true, .slice a 1 c] 47)) fun e w' => e = .returned (.tuple #[.string exD, .int .i64 0]) ∧ Below w.heap.size w w' := by
  have hal := (Below.refl w.heap.size w).alloc (Nat.le_refl _) (.cells #[.bool true, .slice a 1 c] 47)
  have hb : Blk (w.alloc (.cells #[.bool true, .slice a 1 c] 47)) w.heap.size 47 [.bool true, .slice a 1 c] := Blk.new w _ [_, _]
  have h := putDraw_any 1 (some ⟨w.heap.size, 0, none⟩) 1 1 [(true, .slice a 1 c, 5)] (w.alloc (.cells #[.bool true, .slice a 1 c] 47)) (by decide) ⟨rfl, fun z hz => by
      obtain rfl := List.mem_singleton.1 hz
      exact (hn.below hal).nm, fun _ => ⟨w.heap.size, 0, rfl, hb.lt, fun i z hi => by
        match i, hi with
        | 0, hi =>
          obtain rfl : (true, Value.slice a 1 c, 5) = z := by simpa using hi
          exact ⟨hb.cell 0, hb.cell 1⟩⟩⟩ (by decide)
  have e : drawV 1 [(true, .slice a 1 c, 5)] = .tuple #[.string exD, .int .i64 0] := by
    rw [drawV_eq]
    show Value.tuple #[.string (drawW 1 [(true, 5)]).1, .int .i64 (drawW 1 [(true, 5)]).2] = _
    rw [ex7]
  rw [e] at h
  refine h.mono ?_
  rintro e w' ⟨rfl, hb⟩
  exact ⟨rfl, hal.trans (hb.mono (by simp))⟩
theorem c_get (w : World) : Calls Tryz.prog 10 #[.string exD] w fun e w' => ∃ b cap a c, e = .returned (.tuple #[.agg #[.slice (some ⟨b, 0, none⟩) 1 cap, .int .u8 1], .int .i64 0]) ∧ 1 ≤ cap ∧ b < w'.heap.size ∧ w'.cell? ⟨b, 0, none⟩ = some (.bool true) ∧ w'.cell? ⟨b, 1, none⟩ = some (.slice a 1 c) ∧ Nm w' (.slice a 1 c) 5 ∧ Below w.heap.size w w' := by
  refine (getDraw_any exD w (by decide)).mono ?_
  rintro e w' ⟨⟨h, v, zs, he, hr, hz, hm, hl⟩ | ⟨h, -⟩, hb⟩
  · rw [ex8] at hm he
    simp only [] at hm he
    rw [ex12] at hm
    simp only [] at hm
    obtain ⟨z, rfl⟩ : ∃ z, zs = [z] := by
      match zs, hm with
      | [z], _ => exact ⟨z, rfl⟩
      | [], hm => simp at hm
      | _ :: _ :: _, hm => simp at hm
    obtain ⟨zb, zv, zn⟩ := z
    obtain ⟨rfl, rfl⟩ : zb = true ∧ zn = 5 := by simpa using hm
    have hnn := hz _ List.mem_cons_self
    simp only [] at hnn
    obtain ⟨a, c, rfl⟩ := hnn.slice
    rw [ex19] at hr hnn
    obtain ⟨-, ⟨rfl, hn⟩ | ⟨g, cap, cur, rfl, hB, hg, hnc, hcm, hcs, htk⟩⟩ := hr
    · exact absurd hn (by simp)
    · have h0 := congrArg (fun l => l[0]?) htk
      have h1 := congrArg (fun l => l[1]?) htk
      simp only [flatZ, List.flatMap_cons, List.flatMap_nil, List.length_singleton] at h0 h1
      refine ⟨g, cap, a, c, he, hnc, (Array.getElem?_eq_some_iff.1 hg).1, ?_, ?_, hnn.nm, hb⟩
      · simpa [World.cell?, hg, List.getElem?_take] using h0
      · simpa [World.cell?, hg, List.getElem?_take] using h1
  · refine absurd ?_ h
    rw [ex8]
    show drawW (1 % 256) (placeR ⟨#[1, 1, 1, 2, 45, 53]⟩ false).1 = _
    rw [ex12]
    exact ex7
theorem c_getx (w : World) : Calls Tryz.prog 10 #[.string ⟨#[120]⟩] w fun e w' => e = .returned (.tuple #[.agg #[.slice none 0 0, .int .u8 0], .int .i64 5]) ∧ Below w.heap.size w w' := by
  refine (getDraw_any ⟨#[120]⟩ w (by decide)).mono ?_
  rintro e w' ⟨⟨h, -⟩ | ⟨-, h⟩, hb⟩
  · rw [ex13] at h
    simp only [] at h
    rw [ex14] at h
    exact absurd h ex15
  · exact ⟨h, hb⟩
theorem c_text (a : Option Addr) (c : Nat) (w : World) (h : Nm w (.slice a 1 c) 5) : Calls Tryz.prog 17 #[.agg #[.bool true, .slice a 1 c]] w fun e w' => e = .returned (.string ⟨#[45, 53]⟩) ∧ Below w.heap.size w w' := by
  have c := ztext_any true _ 5 w h (lim_small 5 1 (by decide) (by decide))
  rw [ex18] at c
  exact c
theorem kept_is (w : World) (b : Bool) (t : ByteArray) (v u : Value) : (Instr.field 54 (.agg #[.bool b, .string t, v, u]) 0).run Tryz.prog w = .ok (.bool b) w := by kernel_rfl
set_option maxRecDepth 100000 in
set_option maxHeartbeats 4000000 in
theorem lawHead_any (w : World) (hsh : Shifts w) :
    Calls Tryz.prog 5 #[] w fun e w' => e = .returned (.bool true) ∧ Below w.heap.size w w' := by
  obtain ⟨h13, h5, h15, hc1, hc2⟩ := ex17
  have q1 := c_head
  have q2 := c_put
  have q3 := c_read1
  have q4 := c_read2
  have q5 := c_draw
  have q6 := c_get
  generalize exH = H at *
  generalize exR = R at *
  generalize exS1 = S1 at *
  generalize exS2 = S2 at *
  generalize exD = D at *
  have Q1 := Lib.hid q1
  have Q2 := Lib.hid q2
  have Q3 := Lib.hid q3
  have Q4 := Lib.hid q4
  have Q5 := Lib.hid q5
  have Q6 := Lib.hid q6
  clear q1 q2 q3 q4 q5 q6
  go_enter Tryz.func5, Tryz.ntmps5
  go_wp2_with fail
  refine (Q1.out w hsh).mono ?_
  rintro e w1 ⟨rfl, hb1⟩
  have hs1 := hsh.below hb1
  go_wp2_with fail
  refine (Q2.out w1 hs1).mono ?_
  rintro e w2 ⟨rfl, hb2⟩
  have hs2 := hs1.below hb2
  have hB2 := hb1.trans (hb2.mono hb1.size)
  go_wp2_with fail
  refine (c_put4 w2 hs2).mono ?_
  rintro e w3 ⟨rfl, hb3⟩
  have hs3 := hs2.below hb3
  have hB3 := hB2.trans (hb3.mono hB2.size)
  clear hb1 hb2 hb3 hB2 hs1 hs2
  go_wp2_with fail
  refine (Q3.out w3 hs3).mono ?_
  rintro e w4 ⟨ra, rc, rfl, hb4⟩
  have hs4 := hs3.below hb4
  have hB4 := hB3.trans (hb4.mono hB3.size)
  obtain ⟨X7, hX7⟩ : ∃ X7, w4.heap.size = X7 := ⟨_, rfl⟩
  obtain ⟨w5, hw5⟩ : ∃ w5, w4.alloc (.cells #[.bool true, .string ⟨#[]⟩, .slice ra 0 rc, .int .i64 13] 54) = w5 := ⟨_, rfl⟩
  have k5 : Blk w5 X7 54 [.bool true, .string ⟨#[]⟩, .slice ra 0 rc, .int .i64 13] := by rw [← hw5, ← hX7]; exact Blk.new _ _ [_, _, _, _]
  have hs5 : Shifts w5 := by rw [← hw5]; exact hs4.below ((Below.refl _ _).alloc (Nat.le_refl _) _)
  have hB5 : Below w.heap.size w w5 := by rw [← hw5]; exact hB4.alloc hB4.size _
  clear hs3 hB3 hb4 hs4 hB4
  go_wp2_with fail
  refine (Q4.out w5 hs5).mono ?_
  rintro e w6 ⟨rb, rc2, rfl, hrc2, hrb, hr0, hr1, hb6⟩
  have hs6 := hs5.below hb6
  have hB6 := hB5.trans (hb6.mono hB5.size)
  have k6 := k5.below hb6 k5.lt
  obtain ⟨X8, hX8⟩ : ∃ X8, w6.heap.size = X8 := ⟨_, rfl⟩
  obtain ⟨w7, hw7⟩ : ∃ w7, w6.alloc (.cells #[.bool true, .string ⟨#[]⟩, .slice (some ⟨rb, 0, none⟩) 1 rc2, .int .i64 28] 54) = w7 := ⟨_, rfl⟩
  have j7 : Blk w7 X8 54 [.bool true, .string ⟨#[]⟩, .slice (some ⟨rb, 0, none⟩) 1 rc2, .int .i64 28] := by rw [← hw7, ← hX8]; exact Blk.new _ _ [_, _, _, _]
  have hal7 : Below w6.heap.size w6 w7 := by rw [← hw7]; exact (Below.refl _ _).alloc (Nat.le_refl _) _
  have k7 := k6.below hal7 k6.lt
  have hs7 : Shifts w7 := hs6.below hal7
  have hB7 : Below w.heap.size w w7 := by rw [← hw7]; exact hB6.alloc hB6.size _
  have hrb7 : rb < w7.heap.size := Nat.lt_of_lt_of_le hrb hal7.size
  have hr07 := (hal7.cell (p := ⟨rb, 0, none⟩) hrb).trans hr0
  have hr17 := (hal7.cell (p := ⟨rb, 1, none⟩) hrb).trans hr1
  clear hw5 hX7 hs5 hB5 hb6 hs6 hB6 k5 k6 hr0 hr1 hrb hal7
  go_wp2_with fail
  refine (c_of w7).mono ?_
  rintro e w8 ⟨za, zc, rfl, hz8, hb8⟩
  have hs8 := hs7.below hb8
  have hB8 := hB7.trans (hb8.mono hB7.size)
  have hd := Q5.out za zc w7 w8 hz8
  have HDR := Lib.hid hd
  clear hd hw7 hX8
  go_wp2_with fail
  refine HDR.out.mono ?_
  rintro e w9 ⟨rfl, hb9⟩
  have hb79 := hb8.trans (hb9.mono hb8.size)
  have hs9 := hs8.below hb9
  have hB9 := hB8.trans (hb9.mono hB8.size)
  clear hs7 hB7 hb8 hs8 hB8 hb9 HDR hz8
  go_wp2_with fail
  refine (Q6.out w9).mono ?_
  rintro e w10 ⟨qb, qc, ma, mc, rfl, hqc, hqb, hq0, hq1, hqn, hb10⟩
  have hb710 := hb79.trans (hb10.mono hb79.size)
  have hs10 := hs9.below hb10
  have hB10 := hB9.trans (hb10.mono hB9.size)
  obtain ⟨X11, hX11⟩ : ∃ X11, w10.heap.size = X11 := ⟨_, rfl⟩
  obtain ⟨w11, hw11⟩ : ∃ w11, w10.alloc (.cells #[.slice (some ⟨qb, 0, none⟩) 1 qc, .int .u8 1] 25) = w11 := ⟨_, rfl⟩
  have d11 : Blk w11 X11 25 [.slice (some ⟨qb, 0, none⟩) 1 qc, .int .u8 1] := by rw [← hw11, ← hX11]; exact Blk.new _ _ [_, _]
  have hal11 : Below w10.heap.size w10 w11 := by rw [← hw11]; exact (Below.refl _ _).alloc (Nat.le_refl _) _
  have hs11 := hs10.below hal11
  have hB11 := hB10.trans (hal11.mono hB10.size)
  have hb711 := hb710.trans (hal11.mono hb710.size)
  have hqb11 : qb < w11.heap.size := Nat.lt_of_lt_of_le hqb hal11.size
  have hq011 := (hal11.cell (p := ⟨qb, 0, none⟩) hqb).trans hq0
  have hq111 := (hal11.cell (p := ⟨qb, 1, none⟩) hqb).trans hq1
  have hqn11 := hqn.below hal11
  clear hs9 hB9 hb79 hb10 hs10 hB10 hb710 hal11 hqb hq0 hq1 hqn
  go_wp2_with fail
  refine (c_getx w11).mono ?_
  rintro e w12 ⟨rfl, hb12⟩
  have hb712 := hb711.trans (hb12.mono hb711.size)
  have hs12 := hs11.below hb12
  have hB12 := hB11.trans (hb12.mono hB11.size)
  have k12 := k7.below hb712 k7.lt
  have j12 := j7.below hb712 j7.lt
  have d12 := d11.below hb12 d11.lt
  have hr012 := (hb712.cell (p := ⟨rb, 0, none⟩) hrb7).trans hr07
  have hr112 := (hb712.cell (p := ⟨rb, 1, none⟩) hrb7).trans hr17
  have hq012 := (hb12.cell (p := ⟨qb, 0, none⟩) hqb11).trans hq011
  have hq112 := (hb12.cell (p := ⟨qb, 1, none⟩) hqb11).trans hq111
  have hqn12 := hqn11.below hb12
  have hrb12 : rb < w12.heap.size := Nat.lt_of_lt_of_le hrb7 hb712.size
  have hqb12 : qb < w12.heap.size := Nat.lt_of_lt_of_le hqb11 hb12.size
  clear hs11 hB11 hb711 hb712 k7 j7 d11 hr07 hr17 hq011 hq111 hqn11 hrb7 hqb11 hw11 hX11 hb12
  have kk0 := k12.cell 0
  have kk2 := k12.cell 2
  have kk3 := k12.cell 3
  have jj2 := j12.cell 2
  have jj3 := j12.cell 3
  have dd0 := d12.cell 0
  have dd1 := d12.cell 1
  have kl := k12.lt
  have jl := j12.lt
  have dl := d12.lt
  simp only [List.getElem?_cons_zero, List.getElem?_cons_succ] at kk0 kk2 kk3 jj2 jj3 dd0 dd1
  go_wp2_with fail
  have hal13 : Below w12.heap.size w12 (w12.alloc (.cells #[.slice none 0 0, .int .u8 0] 25)) := (Below.refl _ _).alloc (Nat.le_refl _) _
  refine (c_read0 _ (hs12.below hal13)).mono ?_
  rintro e w14 ⟨rfl, hb14'⟩
  have hb14 := hal13.trans (hb14'.mono hal13.size)
  have hB14 := hB12.trans (hb14.mono hB12.size)
  have k14 := k12.below hb14 k12.lt
  have j14 := j12.below hb14 j12.lt
  have d14 := d12.below hb14 d12.lt
  have hr014 := (hb14.cell (p := ⟨rb, 0, none⟩) hrb12).trans hr012
  have hr114 := (hb14.cell (p := ⟨rb, 1, none⟩) hrb12).trans hr112
  have hq014 := (hb14.cell (p := ⟨qb, 0, none⟩) hqb12).trans hq012
  have hq114 := (hb14.cell (p := ⟨qb, 1, none⟩) hqb12).trans hq112
  have hqn14 := hqn12.below hb14
  have hrb14 : rb < w14.heap.size := Nat.lt_of_lt_of_le hrb12 hb14.size
  have hqb14 : qb < w14.heap.size := Nat.lt_of_lt_of_le hqb12 hb14.size
  clear hs12 hB12 hb14 hb14' k12 j12 d12 hr012 hr112 hq012 hq112 hqn12 hrb12 hqb12 kk0 kk2 kk3 jj2 jj3 dd0 dd1 kl jl dl hal13
  have dd0 := d14.cell 0
  have dd1 := d14.cell 1
  have dl := d14.lt
  have hfield := kept_is w14 false ⟨#[]⟩ (.slice none 0 0) (.int .i64 0)
  simp only [List.getElem?_cons_zero, List.getElem?_cons_succ] at dd0 dd1
  go_wp2_with fail
  refine (c_text ma mc w14 hqn14).mono ?_
  rintro e w15 ⟨rfl, hb15⟩
  go_wp2_with fail
  go_ret
  exact ⟨rfl, hB14.trans (hb15.mono hB14.size)⟩
end Go.Proofs.YtpnllalefpkcjaaGreatDoor.Store
