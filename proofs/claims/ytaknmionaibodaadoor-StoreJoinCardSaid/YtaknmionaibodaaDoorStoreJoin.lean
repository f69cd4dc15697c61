/-
StoreJoin: of two heads with records, one behind the other, Read tells the first one's, and none of the second one's; and bytes ahead of a head hide it; heads of more than 300 bytes, and more than 20 records or records of more than 300 bytes, are let go. No condition.
-/
import Derived.Test.YtaknmionaibodaaDoorStoreLaid
namespace Go.Proofs.YtaknmionaibodaaDoor.Store
open Go.RowKit Notch

theorem recL_of : ∀ (l : List (Nat × ByteArray)) (u : Nat), recL (recsOf u l) = l
  | [], _ => rfl
  | r :: l, u => by
    have ih := recL_of l (u + (putS r.1 r.2).size)
    unfold recL at ih ⊢
    rw [recsOf, List.map_cons, ih]
theorem head_pos (s : ByteArray) : (headS s).size ≠ 0 := by rw [head_size]; omega
theorem read_facts {x s : ByteArray} {l : List (Nat × ByteArray)} {m : Nat} (h : headR x = (s, (headS s).size) ∧ recsAt x (headS s).size = recsOf (headS s).size (l.take m)) :
    readIs x = true ∧ readT x = s ∧ readU x = endK s l m ∧ readL x = l.take m := by
  obtain ⟨h1, h2⟩ := h
  have h0 := head_pos s
  unfold readIs readT readU readL
  rw [h1]
  simp only []
  rw [if_neg h0, if_neg h0, if_neg h0, h2, recsOf_end, recL_of, endK_eq]
  exact ⟨decide_eq_true h0, rfl, rfl, rfl⟩
theorem read_no {x : ByteArray} (h : (headR x).2 = 0) : readIs x = false ∧ readT x = ⟨#[]⟩ ∧ readU x = 0 ∧ readL x = [] := by
  unfold readIs readT readU readL
  rw [if_pos h, if_pos h, if_pos h]
  exact ⟨by simp [h], rfl, rfl, rfl⟩
theorem laid_small (s : ByteArray) : ∀ l : List (Nat × ByteArray), Few s l → (∀ r ∈ l, r.1 < 256) → (laidB s l).size ≤ 10000 := by
  intro l hf hv
  have h1 : ∀ l : List (Nat × ByteArray), (∀ r ∈ l, r.2.size ≤ 300) → (∀ r ∈ l, r.1 < 256) → (catR l).length ≤ 400 * l.length := by
    intro l
    induction l with
    | nil => intros; simp [catR]
    | cons r l ih =>
      intro ha hb
      have i1 := ih (fun q hq => ha q (List.mem_cons_of_mem _ hq)) (fun q hq => hb q (List.mem_cons_of_mem _ hq))
      have i2 := put_small r.1 r.2 (hb r List.mem_cons_self) (ha r List.mem_cons_self)
      rw [catR_cons, List.length_append, size_list, List.length_cons]
      omega
  have h2 := h1 l hf.2.2 hv
  have h3 := head_small s hf.1
  have h4 := hf.2.1
  rw [laid_size]
  omega
theorem few_nil (t : ByteArray) (h : t.size ≤ 300) : Few t [] := ⟨h, by simp, fun r hr => by cases hr⟩
theorem Rs.nil (w : World) : Rs w (.slice none 0 0) [] := ⟨none, 0, rfl, by simp, Nat.zero_le _, fun h => absurd h (by decide)⟩
theorem LaidV.yes {w w' : World} {s : ByteArray} {l : List (Nat × ByteArray)} {e : Ending} (h : LaidV w s l e w') (hk : Kinds l) : (∃ v, e = .returned (.tuple #[.string (laidB s l), v, .bool true]) ∧ Ks w' v (endsL s l l.length)) ∧ Below w.heap.size w w' := by
  rcases h with ⟨-, h1, h2⟩ | ⟨h1, -⟩
  · exact ⟨h1, h2⟩
  · exact absurd hk h1
theorem LaidV.no {w w' : World} {s : ByteArray} {l : List (Nat × ByteArray)} {e : Ending} (h : LaidV w s l e w') (hk : ¬ Kinds l) : e = .returned (.tuple #[.string ⟨#[]⟩, .slice none 0 0, .bool false]) ∧ Below w.heap.size w w' := by
  rcases h with ⟨h1, -⟩ | ⟨-, h1, h2⟩
  · exact absurd h1 hk
  · exact ⟨h1, h2⟩
theorem laid_yes (s : ByteArray) (v : Value) (l : List (Nat × ByteArray)) (w : World) (h : Rs w v l) (hf : Few s l) (hv : ∀ r ∈ l, r.1 < 256) (hk : Kinds l) (hsh : Shifts w) :
    Calls Tryd.prog 17 #[.string s, v] w fun e w' => ∃ v, e = .returned (.tuple #[.string (laidB s l), v, .bool true]) ∧ Ks w' v (endsL s l l.length) ∧ Below w.heap.size w w' :=
  (laid_any s v l w h hf hv hsh).mono fun _ _ hl => by obtain ⟨⟨v, h1, h2⟩, h3⟩ := hl.yes hk; exact ⟨v, h1, h2, h3⟩
set_option maxRecDepth 100000 in
set_option maxHeartbeats 2000000 in
theorem storeJoin_rs (s t : ByteArray) (v : Value) (l : List (Nat × ByteArray)) (w : World) (hs : s.size ≤ maxLen) (ht : t.size ≤ maxLen) (h : Rs w v l) (hv : ∀ r ∈ l, r.1 < 256 ∧ r.2.size ≤ maxLen) (hsh : Shifts w) :
    Calls Tryd.prog 7 #[.string s, v, .string t] w fun e w' => e = .returned (.bool true) ∧ Below w.heap.size w w' := by
  have HS := Lib.hid hsh
  by_cases hf : Few s l
  rotate_left
  · have c1 := Lib.hid (great_yes s v l w hs h (fun r hr => (hv r hr).2) hf)
    unfold maxLen at hs ht
    clear h hv hf
    go_enter Tryd.func7, Tryd.ntmps7
    go_wp2_with fail
    refine c1.out.mono ?_
    rintro e w1 ⟨rfl, rfl⟩
    go_wp2_with fail
    refine (lawHead_any _ HS.out).mono ?_
    rintro e w1 ⟨rfl, hb1⟩
    go_wp2_with fail
    go_ret
    exact ⟨rfl, hb1⟩
  have c1 := Lib.hid (great_no s v l w h hf)
  by_cases ht3 : 300 < t.size
  · unfold maxLen at hs ht
    clear h hv hf
    go_enter Tryd.func7, Tryd.ntmps7
    go_wp2_with fail
    refine c1.out.mono ?_
    rintro e w1 ⟨rfl, rfl⟩
    go_wp2_with fail
    refine (lawHead_any _ HS.out).mono ?_
    rintro e w1 ⟨rfl, hb1⟩
    go_wp2_with fail
    go_ret
    exact ⟨rfl, hb1⟩
  have hv1 := fun r hr => (hv r hr).1
  have c2 := Lib.hid (laid_any s v l w h hf hv1 hsh)
  have c3 := fun w1 h1 => laid_any t (.slice none 0 0) [] w1 (Rs.nil _) (few_nil t (by omega)) (fun r hr => by cases hr) h1
  have C3 := Lib.hid c3
  have hlen := hf.2.1
  by_cases hk : Kinds l
  rotate_left
  · have HK := Lib.hid hk
    unfold maxLen at hs ht
    clear h hv hf c3 hk hv1
    go_enter Tryd.func7, Tryd.ntmps7
    go_wp2_with fail
    refine c1.out.mono ?_
    rintro e w1 ⟨rfl, rfl⟩
    go_wp2_with fail
    refine c2.out.mono ?_
    intro e w1 hl1
    obtain ⟨rfl, hb1⟩ := hl1.no HK.out
    have hS1 := HS.out.below hb1
    go_wp2_with fail
    refine (C3.out w1 hS1).mono ?_
    intro e w2 hl2
    obtain ⟨⟨v2, rfl, hz2⟩, hb2⟩ := hl2.yes (fun r hr => by cases hr)
    have hS2 := hS1.below hb2
    clear hl1 hl2
    go_wp2_with fail
    refine (lawHead_any _ hS2).mono ?_
    rintro e w3 ⟨rfl, hb3⟩
    go_wp2_with fail
    go_ret
    exact ⟨rfl, hb1.trans ((hb2.trans (hb3.mono hb2.size)).mono hb1.size)⟩
  have d2 := laid_yes s v l w h hf hv1 hk hsh
  have d3 := fun w1 h1 => laid_yes t (.slice none 0 0) [] w1 (Rs.nil _) (few_nil t (by omega)) (fun r hr => by cases hr) (fun r hr => by cases hr) h1
  clear C3 c2
  have hB := laid_small s l hf hv1
  have hC := laid_small t [] (few_nil t (by omega)) (fun r hr => by cases hr)
  have hj := read_join s t l (by have := hf.1; omega) (valid_of hf hk)
  rw [show recsOf (headS s).size l = recsOf (headS s).size (l.take l.length) by rw [List.take_length]] at hj
  obtain ⟨r1, r2, r3, r4⟩ := read_facts hj
  rw [List.take_length] at r4
  have r5 := (read_no (read_ahead s l)).1
  have he : ∃ E : Nat, endK s l l.length = E ∧ (endsL s l l.length)[l.length]? = some E := ⟨_, rfl, endsL_get s l l.length l.length (Nat.le_refl _)⟩
  have hel := endsL_length s l l.length
  obtain ⟨E, hE, hEg⟩ := he
  rw [hE] at r3
  generalize laidB s l = X at *
  generalize laidB t [] = Y at *
  generalize endsL s l l.length = L at *
  obtain ⟨XY, hXY⟩ : ∃ XY, X ++ Y = XY := ⟨_, rfl⟩
  obtain ⟨aX, haX⟩ : ∃ aX, (⟨#[120]⟩ : ByteArray) ++ X = aX := ⟨_, rfl⟩
  have hXYs : XY.size ≤ 20000 := by rw [← hXY, ByteArray.size_append]; omega
  have haXs : aX.size ≤ 20000 := by
    rw [← haX, ByteArray.size_append]
    have : (⟨#[120]⟩ : ByteArray).size = 1 := rfl
    omega
  rw [hXY] at r1 r2 r3 r4
  rw [haX] at r5
  have c4 := fun w h => sread_form XY w (by omega) h
  have c5 := fun w h => sread_form aX w (by omega) h
  rw [r1, r2, r3, r4] at c4
  rw [r5] at c5
  have C4 := Lib.hid c4
  have C5 := Lib.hid c5
  have D2 := Lib.hid d2
  have D3 := Lib.hid d3
  have HL := Lib.hid (And.intro hel hEg)
  have HR := Lib.hid h
  have hss : (s.toList == s.toList) = true := by simp
  unfold maxLen at hs ht
  clear h hv hf c3 hk hv1 c4 c5 r1 r2 r3 r4 r5 hE hel hEg hj d2 d3
  obtain ⟨av, cv, rfl, -, -, -⟩ := HR.out
  go_enter Tryd.func7, Tryd.ntmps7
  go_wp2_with fail
  refine c1.out.mono ?_
  rintro e w1 ⟨rfl, rfl⟩
  go_wp2_with fail
  refine D2.out.mono ?_
  rintro e w1 ⟨v1, rfl, hz1, hb1⟩
  have hS1 := HS.out.below hb1
  go_wp2_with fail
  refine (D3.out w1 hS1).mono ?_
  rintro e w2 ⟨v2, rfl, hz2, hb2⟩
  have hz := hz1.below hb2
  have hS2 := hS1.below hb2
  have hB2 := hb1.trans (hb2.mono hb1.size)
  obtain ⟨az, cz, rfl, z1, z2, z3⟩ := hz
  rw [HL.out.1] at z1 z3 ⊢
  obtain ⟨zb, zo, rfl, zlt, zc⟩ := z3 (by omega)
  have zE := zc l.length E HL.out.2
  unfold maxLen at z2
  have HB2 := Lib.hid (And.intro hB2 hS2)
  clear hz1 hz2 hb1 hb2 hS1 hS2 hB2 zc
  go_wp2_with fail
  refine (C4.out w2 HB2.out.2).mono ?_
  rintro e w3 ⟨v3, rfl, hr3, hb3⟩
  obtain ⟨a3, e3, rfl, -, -, -⟩ := hr3
  have zE3 := (hb3.cell (p := ⟨zb, zo + l.length, none⟩) zlt).trans zE
  have hS3 := HB2.out.2.below hb3
  have hB3 := HB2.out.1.trans (hb3.mono HB2.out.1.size)
  have hal : Below w3.heap.size w3 (w3.alloc (.cells #[.bool true, .string s, .slice a3 l.length e3, .int .i64 (E : Int)] 36)) := (Below.refl _ _).alloc (Nat.le_refl _) _
  have k4 : Blk (w3.alloc (.cells #[.bool true, .string s, .slice a3 l.length e3, .int .i64 (E : Int)] 36)) w3.heap.size 36 [.bool true, .string s, .slice a3 l.length e3, .int .i64 (E : Int)] := Blk.new w3 _ [_, _, _, _]
  have zl3 : zb < w3.heap.size := Nat.lt_of_lt_of_le zlt hb3.size
  have zE4 := (hal.cell (p := ⟨zb, zo + l.length, none⟩) zl3).trans zE3
  have hS4 := hS3.below hal
  have hB4 := hB3.trans (hal.mono hB3.size)
  obtain ⟨K, hK⟩ : ∃ K, w3.heap.size = K := ⟨_, rfl⟩
  obtain ⟨w4, hw4⟩ : ∃ w4, w3.alloc (.cells #[.bool true, .string s, .slice a3 l.length e3, .int .i64 (E : Int)] 36) = w4 := ⟨_, rfl⟩
  rw [hw4] at k4 zE4 hS4 hB4
  rw [hK] at k4
  have HB4 := Lib.hid (And.intro hB4 hS4)
  clear hal hb3 zE zE3 hS3 hB3 HB2 zl3 zlt hB4 hS4
  have e0 := k4.cell 0
  have e1 := k4.cell 1
  have e2 := k4.cell 2
  have e3' := k4.cell 3
  simp only [List.getElem?_cons_zero, List.getElem?_cons_succ] at e0 e1 e2 e3'
  go_wp2_with fail
  refine (C5.out w4 HB4.out.2).mono ?_
  rintro e w5 ⟨v5, rfl, -, hb5⟩
  have hfield := kept_is w5 false (readT aX) v5 (.int .i64 (readU aX : Int))
  go_wp2_with fail
  refine (lawHead_any w5 (HB4.out.2.below hb5)).mono ?_
  rintro e w6 ⟨rfl, hb6⟩
  go_wp2_with fail
  go_ret
  exact ⟨rfl, HB4.out.1.trans ((hb5.trans (hb6.mono hb5.size)).mono HB4.out.1.size)⟩
theorem storeJoin_walk (s : ByteArray) (a : Option Addr) (len cap : Nat) (rows : List (List Value)) (t : ByteArray) (w : World) (hs : s.size ≤ maxLen) (hrow : IsRecs w a len cap 2 rows)
    (hpr : ∀ r ∈ rows, ∃ (x0 : Int) (x1 : ByteArray), r = [.int .u8 x0, .string x1] ∧ (Lit.int .u8 x0).wf = true ∧ x1.size ≤ maxLen) (ht : t.size ≤ maxLen) (hsh : Shifts w) :
    Calls Tryd.prog 7 #[.string s, .slice a len cap, .string t] w fun e w' => e = .returned (.bool true) ∧ Below w.heap.size w w' := by
  obtain ⟨h1, h2⟩ := Rs.recs hrow hpr
  exact storeJoin_rs s t _ _ w hs ht h1 h2 hsh
end Go.Proofs.YtaknmionaibodaaDoor.Store
