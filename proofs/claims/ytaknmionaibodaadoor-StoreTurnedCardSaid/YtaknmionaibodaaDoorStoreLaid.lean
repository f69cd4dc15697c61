/-
Contract of the statements' laid: a head with records behind it, and where each one ends.
-/
import Derived.Test.YtaknmionaibodaaDoorStoreForm
import Derived.Test.YtaknmionaibodaaDoorStoreBack
import Derived.Test.YtaknmionaibodaaDoorStoreEx
namespace Go.Proofs.YtaknmionaibodaaDoor.Store
open Go.RowKit Notch

def Kinds (l : List (Nat × ByteArray)) : Prop := ∀ r ∈ l, 1 ≤ r.1 ∧ r.1 ≤ 3
theorem valid_of {s : ByteArray} {l : List (Nat × ByteArray)} (hf : Few s l) (hk : Kinds l) : ∀ r ∈ l, validR r := fun r hr => ⟨(hk r hr).1, (hk r hr).2, by have := hf.2.2 r hr; omega⟩
def endsL (s : ByteArray) (l : List (Nat × ByteArray)) (j : Nat) : List Nat := (List.range (j + 1)).map (endK s l)
theorem endsL_length (s : ByteArray) (l : List (Nat × ByteArray)) (j : Nat) : (endsL s l j).length = j + 1 := by simp [endsL]
theorem endsL_get (s : ByteArray) (l : List (Nat × ByteArray)) (j i : Nat) (h : i ≤ j) : (endsL s l j)[i]? = some (endK s l i) := by
  unfold endsL
  rw [List.getElem?_map, List.getElem?_range (by omega)]
  rfl
theorem endsL_succ (s : ByteArray) (l : List (Nat × ByteArray)) (j : Nat) : endsL s l (j + 1) = endsL s l j ++ [endK s l (j + 1)] := by
  unfold endsL
  rw [List.range_succ, List.map_append]
  rfl
theorem put_small (k : Nat) (d : ByteArray) (hk : k < 256) (hd : d.size ≤ 300) : (putS k d).size ≤ 400 := by
  rw [put_size, List.length_append]
  have h1 := textB_size d (by omega)
  rw [← size_list, textB_list] at h1
  have h2 := Notch.encB_size k (by omega)
  rw [← size_list, encB_list] at h2
  omega
theorem head_small (s : ByteArray) (hs : s.size ≤ 300) : (headS s).size ≤ 400 := by
  rw [head_size, List.length_append]
  have h1 := textB_size s (by omega)
  rw [← size_list, textB_list] at h1
  simp only [List.length_cons, List.length_nil]
  omega
theorem laid_snoc' (s : ByteArray) (l : List (Nat × ByteArray)) (j : Nat) (r : Nat × ByteArray) (h : l[j]? = some r) : laidB s (l.take (j + 1)) = laidB s (l.take j) ++ putS r.1 r.2 := by
  obtain ⟨hj, rfl⟩ := List.getElem?_eq_some_iff.1 h
  rw [List.take_succ_eq_append_getElem hj, laid_snoc]
theorem intInfo : (Tryd.prog.info? 3).map (fun i => (i.zero, i.size, i.bytes)) = some (some (.int .i64 0), 1, 8) := by kernel_rfl
theorem own_one (w : World) (x : Value) : (w.alloc (.cells #[x] 3)).ownsRow w.heap.size 3 1 (.slice (some ⟨w.heap.size, 0, none⟩) 1 1) 1 [x] :=
  ⟨by simp, .inr ⟨w.heap.size, 1, #[x], rfl, Nat.le_refl _, heap_alloc_new w _, Nat.le_refl _, by decide, by simp, by simp⟩⟩
theorem hid_of {P : Prop} (h : P) : Hid P := Lib.hid h
/-- What laid tells. -/
def LaidV (w : World) (s : ByteArray) (l : List (Nat × ByteArray)) (e : Ending) (w' : World) : Prop :=
  (Kinds l ∧ (∃ v, e = .returned (.tuple #[.string (laidB s l), v, .bool true]) ∧ Ks w' v (endsL s l l.length)) ∧ Below w.heap.size w w') ∨
  (¬ Kinds l ∧ e = .returned (.tuple #[.string ⟨#[]⟩, .slice none 0 0, .bool false]) ∧ Below w.heap.size w w')
set_option maxRecDepth 100000 in
set_option maxHeartbeats 2000000 in
theorem laid_any (s : ByteArray) (v : Value) (l : List (Nat × ByteArray)) (w : World) (h : Rs w v l) (hf : Few s l) (hv : ∀ r ∈ l, r.1 < 256) (hsh : Shifts w) :
    Calls Tryd.prog 17 #[.string s, v] w (LaidV w s l) := by
  obtain ⟨a, c, rfl, p1, m1, g1⟩ := h
  obtain ⟨q1, q2, q3⟩ := hf
  unfold maxLen at m1
  have c1 := head_any s w (by unfold maxLen; omega) hsh
  have hhv : headV s = .tuple #[.string (headS s), .int .i64 0] := by unfold headV; rw [if_neg (by omega)]
  rw [hhv] at c1
  have hsz := head_small s q1
  have hb0 : laidB s (l.take 0) = headS s := rfl
  have he0 : endsL s l 0 = [(headS s).size] := by simp [endsL, endK_zero]
  generalize headS s = H at *
  have C1 := Lib.hid c1
  have HF := Lib.hid q3
  have HV := Lib.hid hv
  have HG := Lib.hid g1
  have H0 := Lib.hid (And.intro hb0 he0)
  clear c1 hhv q3 hv g1 hb0 he0
  go_enter Tryd.func17, Tryd.ntmps17
  go_wp2_with fail
  refine C1.out.mono ?_
  rintro e w1 ⟨rfl, hb1⟩
  have hsz1 := hb1.size
  have HB1 := Lib.hid hb1
  clear hb1
  go_wp2_with fail
  go_loopw [7, 9, 10] (fun T E i wr => ∃ (j : Nat) (T' : ByteArray) , j ≤ l.length ∧ i = .int .i64 (j : Int) ∧ T = .string T' ∧ T'.size ≤ 400 + j * 400 ∧ Hid (T' = laidB s (l.take j)) ∧ Hid (∀ i r, i < j → l[i]? = some r → 1 ≤ r.1 ∧ r.1 ≤ 3) ∧
    Hid (wr.ownsRow w1.heap.size 3 1 E (j + 1) ((endsL s l j).map intV)) ∧ Hid (Below w1.heap.size w1 wr)) (fun _ _ i _ => l.length - (intOf i).toNat)
  case atStart =>
    refine ⟨0, H, Nat.zero_le _, rfl, rfl, by omega, hid_of H0.out.1.symm, hid_of (fun i r h => absurd h (Nat.not_lt_zero i)), hid_of ?_, hid_of ((Below.refl _ _).alloc (Nat.le_refl _) _)⟩
    rw [H0.out.2]
    exact own_one w1 (.int .i64 (H.size : Int))
  case round =>
    obtain ⟨j, T, hj, rfl, rfl, hT, HT, HK, HO, HB⟩ := hrel
    have hszr := HB.out.size
    obtain ⟨va, vc, rfl⟩ := own_slice HO.out
    by_cases hlt : j < l.length
    · have dd1 : decide (j < l.length) = true := by simpa using hlt
      obtain ⟨b, o, rfl, hb, hc⟩ := HG.out (by omega)
      obtain ⟨⟨k, d⟩, hr⟩ : ∃ r, l[j]? = some r := ⟨_, List.getElem?_eq_getElem hlt⟩
      have hBr : Below w.heap.size w wr := HB1.out.trans (HB.out.mono hsz1)
      have x1 := (hBr.cell (p := ⟨b, o + j * 2, none⟩) hb).trans (hc j _ hr).1
      have x2 := (hBr.cell (p := ⟨b, o + j * 2 + 1, none⟩) hb).trans (hc j _ hr).2
      have hk := HV.out _ (List.mem_of_getElem? hr)
      have hd := HF.out _ (List.mem_of_getElem? hr)
      have HJ := Lib.hid hr
      simp only [] at x1 x2 hk hd
      have hps := put_small k d hk hd
      have hsr := hsh.below hBr
      have c2 := put_any k d wr hk (by unfold maxLen; omega) hsr
      have hsn := laid_snoc' s l j _ hr
      simp only [] at hsn
      have HBr := Lib.hid hBr
      by_cases hkk : 1 ≤ k ∧ k ≤ 3
      · have hpv : putV k d = .tuple #[.string (putS k d), .int .i64 0] := by unfold putV; rw [if_neg (by omega), if_neg (by omega)]
        rw [hpv] at c2
        generalize putS k d = X at *
        obtain ⟨T2, hT2⟩ : ∃ T2, T ++ X = T2 := ⟨_, rfl⟩
        have hT2s : T2.size ≤ 400 + (j + 1) * 400 := by rw [← hT2, ByteArray.size_append]; omega
        have HT2 : Hid (T2 = laidB s (l.take (j + 1))) := hid_of (by rw [hsn, ← HT.out, hT2])
        have HE2 := hid_of (show endK s l (j + 1) = T2.size by unfold endK; rw [← HT2.out])
        have C2 := Lib.hid c2
        clear c2 hr hc hpv hsr hsn hBr
        go_wp2_with fail
        refine C2.out.mono ?_
        rintro e w2 ⟨rfl, hb2⟩
        have HO2 : Hid (w2.ownsRow w1.heap.size 3 1 (.slice va (j + 1) vc) (j + 1) ((endsL s l j).map intV)) := hid_of (own_below HO.out hb2)
        have hsz2 := hb2.size
        have HB2 : Hid (Below w1.heap.size w1 w2) := hid_of (HB.out.trans (hb2.mono hszr))
        clear hb2
        go_wp2_with (at_builtin; refine wpList_append_own1 rfl (.tmp 42) (.tmp 45) _ rfl w1.heap.size 3 _ 8 Tryd.underlying41 intInfo rfl _ (j + 1) _ rfl w2 (.int .i64 (T2.size : Int)) rfl HO2.out rfl rfl (by unfold maxLen; omega) (by omega) (by omega) ?_; intro v3 w3 hown3 hb3; have HO3 := Lib.hid hown3; clear hown3)
        have HO4 : Hid (w3.ownsRow w1.heap.size 3 1 v3 (j + 1 + 1) ((endsL s l (j + 1)).map intV)) := hid_of (by
          rw [endsL_succ, List.map_append, List.map_singleton, intV, HE2.out]
          exact HO3.out)
        have HB3 : Hid (Below w1.heap.size w1 w3) := hid_of (HB2.out.trans hb3)
        have HK2 : Hid (∀ i r, i < j + 1 → l[i]? = some r → 1 ≤ r.1 ∧ r.1 ≤ 3) := hid_of fun i r hi hr => by
          by_cases hij : i = j
          · subst hij
            rw [HJ.out] at hr
            obtain rfl := Option.some.inj hr
            exact hkk
          · exact HK.out i r (by omega) hr
        go_roundw
        first
          | exact ⟨⟨j + 1, T2, by omega, by go_num, rfl, hT2s, HT2, HK2, HO4, HB3⟩, by simp [intOf]; omega⟩
          | (case rel => exact ⟨j + 1, T2, by omega, by go_num, rfl, hT2s, HT2, HK2, HO4, HB3⟩
             case measure => simp [intOf]; omega)
      · have hpv : putV k d = .tuple #[.string ⟨#[]⟩, .int .i64 2] := by unfold putV; rw [if_pos (by omega)]; rfl
        rw [hpv] at c2
        have HBAD := hid_of (show ¬ Kinds l from fun h => hkk (h _ (List.mem_of_getElem? HJ.out)))
        generalize putS k d = X at *
        have C2 := Lib.hid c2
        clear c2 hr hc hpv hsr hsn hBr
        go_wp2_with fail
        refine C2.out.mono ?_
        rintro e w2 ⟨rfl, hb2⟩
        go_wp2_with fail
        go_ret3
        exact .inr ⟨HBAD.out, rfl, HBr.out.trans (hb2.mono HBr.out.size)⟩
    · have dd1 : decide (j < l.length) = false := by simpa using hlt
      obtain rfl : j = l.length := by omega
      have HKI := hid_of (show Kinds l from fun r hr => by
        obtain ⟨i, hi, rfl⟩ := List.mem_iff_getElem.1 hr
        exact HK.out i _ hi (List.getElem?_eq_getElem hi))
      have HT3 : Hid (T = laidB s l) := hid_of (by rw [HT.out, List.take_length])
      have HBr : Hid (Below w.heap.size w wr) := hid_of (HB1.out.trans (HB.out.mono hsz1))
      have HO4 : Hid (wr.ownsRow w1.heap.size 3 1 (.slice va (l.length + 1) vc) (endsL s l l.length).length ((endsL s l l.length).map intV)) := hid_of (by rw [endsL_length]; exact HO.out)
      go_wp2_with fail
      go_ret3
      refine .inl ⟨HKI.out, ⟨.slice va (l.length + 1) vc, ?_, Ks.own HO4.out⟩, HBr.out⟩
      rw [← HT3.out]
      rfl
theorem recL_of : ∀ (l : List (Nat × ByteArray)) (u : Nat), recL (recsOf u l) = l
  | [], _ => rfl
  | r :: l, u => by
    have ih := recL_of l (u + (putS r.1 r.2).size)
    unfold recL at ih ⊢
    rw [recsOf, List.map_cons, ih]
theorem head_pos (s : ByteArray) : (headS s).size ≠ 0 := by rw [head_size]; omega
theorem read_facts {x s : ByteArray} {l : List (Nat × ByteArray)} {m : Nat} (h : headR x = (s, (headS s).size) ∧ recsAt x (headS s).size = recsOf (headS s).size (l.take m)) :
    readIs x = true ∧ readT x = s ∧ readU x = endK s l m ∧ readL x = l.take m := by
  obtain ⟨h1, h2⟩ := h
  have h0 := head_pos s
  unfold readIs readT readU readL
  rw [h1]
  simp only []
  rw [if_neg h0, if_neg h0, if_neg h0, h2, recsOf_end, recL_of, endK_eq]
  exact ⟨decide_eq_true h0, rfl, rfl, rfl⟩
theorem read_no {x : ByteArray} (h : (headR x).2 = 0) : readIs x = false ∧ readT x = ⟨#[]⟩ ∧ readU x = 0 ∧ readL x = [] := by
  unfold readIs readT readU readL
  rw [if_pos h, if_pos h, if_pos h]
  exact ⟨by simp [h], rfl, rfl, rfl⟩
theorem laid_small (s : ByteArray) : ∀ l : List (Nat × ByteArray), Few s l → (∀ r ∈ l, r.1 < 256) → (laidB s l).size ≤ 10000 := by
  intro l hf hv
  have h1 : ∀ l : List (Nat × ByteArray), (∀ r ∈ l, r.2.size ≤ 300) → (∀ r ∈ l, r.1 < 256) → (catR l).length ≤ 400 * l.length := by
    intro l
    induction l with
    | nil => intros; simp [catR]
    | cons r l ih =>
      intro ha hb
      have i1 := ih (fun q hq => ha q (List.mem_cons_of_mem _ hq)) (fun q hq => hb q (List.mem_cons_of_mem _ hq))
      have i2 := put_small r.1 r.2 (hb r List.mem_cons_self) (ha r List.mem_cons_self)
      rw [catR_cons, List.length_append, size_list, List.length_cons]
      omega
  have h2 := h1 l hf.2.2 hv
  have h3 := head_small s hf.1
  have h4 := hf.2.1
  rw [laid_size]
  omega
theorem few_nil (t : ByteArray) (h : t.size ≤ 300) : Few t [] := ⟨h, by simp, fun r hr => by cases hr⟩
theorem Rs.nil (w : World) : Rs w (.slice none 0 0) [] := ⟨none, 0, rfl, by simp, Nat.zero_le _, fun h => absurd h (by decide)⟩
theorem LaidV.yes {w w' : World} {s : ByteArray} {l : List (Nat × ByteArray)} {e : Ending} (h : LaidV w s l e w') (hk : Kinds l) : (∃ v, e = .returned (.tuple #[.string (laidB s l), v, .bool true]) ∧ Ks w' v (endsL s l l.length)) ∧ Below w.heap.size w w' := by
  rcases h with ⟨-, h1, h2⟩ | ⟨h1, -⟩
  · exact ⟨h1, h2⟩
  · exact absurd hk h1
theorem LaidV.no {w w' : World} {s : ByteArray} {l : List (Nat × ByteArray)} {e : Ending} (h : LaidV w s l e w') (hk : ¬ Kinds l) : e = .returned (.tuple #[.string ⟨#[]⟩, .slice none 0 0, .bool false]) ∧ Below w.heap.size w w' := by
  rcases h with ⟨h1, -⟩ | ⟨-, h1, h2⟩
  · exact absurd h1 hk
  · exact ⟨h1, h2⟩
theorem laid_yes (s : ByteArray) (v : Value) (l : List (Nat × ByteArray)) (w : World) (h : Rs w v l) (hf : Few s l) (hv : ∀ r ∈ l, r.1 < 256) (hk : Kinds l) (hsh : Shifts w) :
    Calls Tryd.prog 17 #[.string s, v] w fun e w' => ∃ v, e = .returned (.tuple #[.string (laidB s l), v, .bool true]) ∧ Ks w' v (endsL s l l.length) ∧ Below w.heap.size w w' :=
  (laid_any s v l w h hf hv hsh).mono fun _ _ hl => by obtain ⟨⟨v, h1, h2⟩, h3⟩ := hl.yes hk; exact ⟨v, h1, h2, h3⟩
end Go.Proofs.YtaknmionaibodaaDoor.Store
