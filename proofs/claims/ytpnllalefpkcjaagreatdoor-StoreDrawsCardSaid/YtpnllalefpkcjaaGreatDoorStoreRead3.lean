/-
Contract of store.Read.
-/
import Derived.Test.YtpnllalefpkcjaaGreatDoorStoreRead2
import Derived.Laws.AppendOwn
import Derived.WalkMore
import Derived.RangeFuncBox
namespace Go.Proofs.YtpnllalefpkcjaaGreatDoor.Store
open Go.RowKit

/-- The records from place u on: kind, data, where each one ends. -/
def recsF : Nat → ByteArray → Nat → List (Nat × ByteArray × Nat)
  | 0, _, _ => []
  | f + 1, s, u => if (recR (s.extract u s.size)).2.2 = 0 then [] else
    ((recR (s.extract u s.size)).1, (recR (s.extract u s.size)).2.1, u + (recR (s.extract u s.size)).2.2) :: recsF f s (u + (recR (s.extract u s.size)).2.2)
def recsAt (s : ByteArray) (u : Nat) : List (Nat × ByteArray × Nat) := recsF (s.size + 1) s u
theorem recR_le (s : ByteArray) : (recR s).2.2 ≤ s.size := by
  unfold recR
  split
  · exact Nat.zero_le _
  · exact endN_le _ _ _
theorem recsF_more : ∀ (f f' : Nat) (s : ByteArray) (u : Nat), u ≤ s.size → s.size < f + u → s.size < f' + u → recsF f s u = recsF f' s u
  | 0, 0, _, _, _, _, _ => rfl
  | 0, f' + 1, s, u, hu, h, _ => by omega
  | f + 1, 0, s, u, hu, _, h => by omega
  | f + 1, f' + 1, s, u, hu, h, h' => by
    unfold recsF
    have hle := recR_le (s.extract u s.size)
    rw [ByteArray.size_extract] at hle
    by_cases h0 : (recR (s.extract u s.size)).2.2 = 0
    · rw [if_pos h0, if_pos h0]
    · rw [if_neg h0, if_neg h0, recsF_more f f' s _ (by omega) (by omega) (by omega)]
theorem recsF_succ (f : Nat) (s : ByteArray) (u : Nat) : recsF (f + 1) s u = if (recR (s.extract u s.size)).2.2 = 0 then [] else
    ((recR (s.extract u s.size)).1, (recR (s.extract u s.size)).2.1, u + (recR (s.extract u s.size)).2.2) :: recsF f s (u + (recR (s.extract u s.size)).2.2) := rfl
theorem recsAt_eq (s : ByteArray) (u : Nat) (hu : u ≤ s.size) : recsAt s u = if (recR (s.extract u s.size)).2.2 = 0 then [] else
    ((recR (s.extract u s.size)).1, (recR (s.extract u s.size)).2.1, u + (recR (s.extract u s.size)).2.2) :: recsAt s (u + (recR (s.extract u s.size)).2.2) := by
  have hle := recR_le (s.extract u s.size)
  rw [ByteArray.size_extract] at hle
  have hu2 : u ≤ s.size := hu
  unfold recsAt
  rw [recsF_succ]
  by_cases h0 : (recR (s.extract u s.size)).2.2 = 0
  · rw [if_pos h0, if_pos h0]
  · rw [if_neg h0, if_neg h0, recsF_more s.size (s.size + 1) s _ (by omega) (by omega) (by omega)]
def endOf (n : Nat) (l : List (Nat × ByteArray × Nat)) : Nat := match l.getLast? with
  | some x => x.2.2
  | none => n
theorem endOf_snoc (n : Nat) (l : List (Nat × ByteArray × Nat)) (x : Nat × ByteArray × Nat) : endOf n (l ++ [x]) = x.2.2 := by simp [endOf]
/-- The cells of records. -/
def flatR (l : List (Nat × ByteArray × Nat)) : List Value := l.flatMap fun x => [.int .u8 (x.1 : Int), .string x.2.1]
theorem flatR_snoc (l : List (Nat × ByteArray × Nat)) (x : Nat × ByteArray × Nat) : flatR (l ++ [x]) = flatR l ++ [.int .u8 (x.1 : Int), .string x.2.1] := by simp [flatR]
theorem Tryz.recInfo : (Tryz.prog.info? 51).map (fun i => (i.zero, i.size, i.bytes)) = some (some (.agg #[.int .u8 0, .string ⟨#[]⟩]), 2, 24) := by kernel_rfl
/-- What Read tells. -/
def ReadV (B : Nat) (w : World) (s : ByteArray) (e : Ending) : Prop :=
  ((headR s).2 = 0 ∧ e = .returned (.agg #[.bool false, .string ⟨#[]⟩, .slice none 0 0, .int .i64 0])) ∨
  ((headR s).2 ≠ 0 ∧ ∃ v, e = .returned (.agg #[.bool true, .string (headR s).1, v, .int .i64 (endOf (headR s).2 (recsAt s (headR s).2) : Int)]) ∧
    w.ownsRow B 51 2 v (recsAt s (headR s).2).length (flatR (recsAt s (headR s).2)))
theorem own_set2 {W : World} {base : Nat} {e : TypeId} {size : Nat} {v : Value} {k : Nat} {xs : List Value} (h : W.ownsRow base e size v k xs) (b i : Nat) (u : Value) (hb : b < base) : (W.setCell ⟨b, i, none⟩ u).ownsRow base e size v k xs := by
  refine h.kept (grown_set W b i u) ?_
  rcases h.2 with ⟨rfl, _⟩ | ⟨g, cap, cur, rfl, hg, _⟩
  · exact .inl rfl
  · exact .inr fun e => by
      have : b = g := by simpa [Value.ownBlock] using e.symm
      omega
theorem own_ge {w : World} {B C : Nat} {e : TypeId} {size : Nat} {v : Value} {k : Nat} {xs : List Value} (h : w.ownsRow B e size v k xs) (hb : C ≤ B) : w.ownsRow C e size v k xs := by
  obtain ⟨h0, h1⟩ := h
  refine ⟨h0, ?_⟩
  rcases h1 with h1 | ⟨g, cap, cur, e, hB, hr⟩
  · exact .inl h1
  · exact .inr ⟨g, cap, cur, e, by omega, hr⟩
theorem own_below {w w' : World} {B : Nat} {e : TypeId} {size : Nat} {v : Value} {k : Nat} {xs : List Value} (h : w.ownsRow B e size v k xs) (hb : Below w.heap.size w w') : w'.ownsRow B e size v k xs := by
  obtain ⟨h0, h1⟩ := h
  refine ⟨h0, ?_⟩
  rcases h1 with h1 | ⟨g, cap, cur, e, hB, hg, hr⟩
  · exact .inl h1
  · exact .inr ⟨g, cap, cur, e, hB, (hb.block g (Array.getElem?_eq_some_iff.1 hg).1).trans hg, hr⟩
def usedOf (g : Nat) (w : World) : Nat := match w.cell? ⟨g, 3, none⟩ with
  | some (.int _ n) => n.toNat
  | _ => 0
/-- The block of the result while Read runs. -/
def KB (w : World) (g : Nat) (t : ByteArray) (v : Value) (u : Nat) : Prop := Blk w g 54 [.bool true, .string t, v, .int .i64 (u : Int)]

theorem own_grow {W w1 : World} {base : Nat} {e : TypeId} {size : Nat} {v : Value} {k : Nat} {xs : List Value} {tmp : Obj}
    (hrow : W.ownsRow base e size v k xs) (hbase : base ≤ W.heap.size) (hgrow : (W.alloc tmp).grownBy w1 v.ownBlock) : Below base W w1 := by
  refine ((Below.refl base W).alloc hbase tmp).grown hgrow (by simp; omega) (fun j ej => ?_)
  rcases hrow.2 with ⟨rfl, _⟩ | ⟨g, cap, cur, rfl, hb, hgb, _⟩
  · simp [Value.ownBlock] at ej
  · obtain rfl : g = j := by simpa [Value.ownBlock] using ej
    exact hb
theorem own_slice {W : World} {base : Nat} {e : TypeId} {size : Nat} {v : Value} {k : Nat} {xs : List Value} (h : W.ownsRow base e size v k xs) : ∃ a cap, v = .slice a k cap := by
  rcases h.2 with ⟨rfl, h0⟩ | ⟨g, cap, cur, rfl, -⟩
  · exact ⟨none, 0, by rw [h0]⟩
  · exact ⟨_, _, rfl⟩
theorem cell_two (W : World) (e : TypeId) (x y : Value) (j : Nat) (u : Value) (h : [x, y][j]? = some u) : (W.alloc (.cells #[x, y] e)).cell? ((⟨W.heap.size, 0, none⟩ : Addr).add j) = some u := by
  rw [Addr.add_lit, Nat.zero_add]
  exact ((Blk.new W e [x, y]).cell j).trans h
/-- append of a record to a row of one's own. -/
theorem app_rec {ops : Array Oper} {rest : List Oper} {o : Oper} {a : Act} {Q : Exit → Act → World → Prop} (W : World) (hg : o.guard = none) (s x : Operand)
    (hop : o.op = Op.call { callee := Callee.builtin Builtin.append, args := #[s, x], argTypes := #[52, 52] }) (base : Nat) (v : Value) (n : Nat) (xs : List Value) (k : Int) (d : ByteArray) (hs : a.eval s = v)
    (hown : W.ownsRow base 51 2 v n xs) (gx : Nat) (hgx : W.heap.size = gx) (hx : a.eval x = .slice (some ⟨gx, 0, none⟩) 1 1) (hn : n ≤ 1000000) (hb : base ≤ W.heap.size)
    (hK : ∀ g cap w', w'.ownsRow base 51 2 (.slice (some ⟨g, 0, none⟩) (n + 1) cap) (n + 1) (xs ++ [.int .u8 k, .string d]) → Below base W w' →
      wpList Tryz.prog ops Q rest (a.put o.dst (.slice (some ⟨g, 0, none⟩) (n + 1) cap)) w') :
    wpList Tryz.prog ops Q (o :: rest) a (W.alloc (.cells #[.int .u8 k, .string d] 51)) := by
  subst hgx
  obtain ⟨i0, hi, hz0, hz1, hz2⟩ := info_parts Tryz.recInfo
  refine wpList_append_own _ hg s x 52 hop base 51 i0 (.agg #[.int .u8 0, .string ⟨#[]⟩]) 2 24 Tryz.underlying52 hi hz0 hz1 hz2 (by decide) (by decide) v n xs hs (hown.alloc _) ⟨W.heap.size, 0, none⟩ 1 1 [.int .u8 k, .string d] hx rfl (fun j u h => cell_two W _ _ _ j u h) (by simp [Value.oneCell']) (by unfold maxLen; omega) (by omega) (by simp; omega) ?_
  intro v' w' h1 h2 _
  obtain ⟨g, cap, rfl⟩ := ownsRow_succ h1
  exact hK g cap w' h1 (own_grow hown hb h2)

set_option maxRecDepth 100000 in
set_option maxHeartbeats 2000000 in
theorem sread_any (s : ByteArray) (w : World) (hs : s.size ≤ 1000000) (hsh : Shifts w) :
    Calls Tryz.prog 15 #[.string s] w fun e w' => ReadV w.heap.size w' s e ∧ Below w.heap.size w w' := by
  obtain ⟨w00, hw00⟩ : ∃ w00, w.alloc (.cells #[.bool false, .string ⟨#[]⟩, .slice none 0 0, .int .i64 0] 54) = w00 := ⟨_, rfl⟩
  have hB00 : Below w.heap.size w w00 := by rw [← hw00]; exact (Below.refl _ _).alloc (Nat.le_refl _) _
  have k0 : Blk w00 w.heap.size 54 [.bool false, .string ⟨#[]⟩, .slice none 0 0, .int .i64 0] := by rw [← hw00]; exact Blk.new _ _ [_, _, _, _]
  have hh := shead_any s w00 (by omega) (hsh.below hB00)
  have hn0s : (headR s).2 ≤ s.size := by
    unfold headR
    split
    · exact endN_le _ _ _
    · exact Nat.zero_le _
  unfold ReadV
  generalize headR s = hd at *
  obtain ⟨t, n0⟩ := hd
  simp only [] at hh hn0s ⊢
  go_enter Tryz.func15, Tryz.ntmps15
  go_wp2_with fail
  refine wp_scope_straight ?_
  go_wp2_with fail
  refine hh.mono ?_
  rintro e w1 ⟨rfl, hb1⟩
  have hB1 : Below w.heap.size w w1 := hB00.trans (hb1.mono hB00.size)
  have k1 := k0.below hb1 k0.lt
  clear hh hw00
  by_cases hn0 : n0 = 0
  · subst hn0
    have c0 := k1.cell 0
    have c1 := k1.cell 1
    have c2 := k1.cell 2
    have c3 := k1.cell 3
    have f0 := k1.frozen 0 (by simp)
    have f1 := k1.frozen 1 (by simp)
    have f2 := k1.frozen 2 (by simp)
    have f3 := k1.frozen 3 (by simp)
    simp only [List.getElem?_cons_zero, List.getElem?_cons_succ] at c0 c1 c2 c3
    go_wp2_with fail
    rw [Exit.noGoto_ret]
    have hk := (((k1.set_ 0 (.bool false)).set_ 1 (.string ⟨#[]⟩)).set_ 2 (.slice none 0 0)).set_ 3 (.int .i64 0)
    have d0 := hk.cell 0
    have d1 := hk.cell 1
    have d2 := hk.cell 2
    have d3 := hk.cell 3
    simp only [List.set_cons_zero, List.set_cons_succ, List.getElem?_cons_zero, List.getElem?_cons_succ] at d0 d1 d2 d3
    exact bodyPost_ret (v := .agg #[.bool false, .string ⟨#[]⟩, .slice none 0 0, .int .i64 0]) (by simp [results, Tryz.results15, go_sem, d0, d1, d2, d3]) rfl ⟨.inl ⟨rfl, rfl⟩,
      (((hB1.setCell (p := ⟨w.heap.size, 0, none⟩) (Nat.le_refl _) _).setCell (p := ⟨w.heap.size, 1, none⟩) (Nat.le_refl _) _).setCell (p := ⟨w.heap.size, 2, none⟩) (Nat.le_refl _) _).setCell (p := ⟨w.heap.size, 3, none⟩) (Nat.le_refl _) _⟩
  · have hz2 : (((n0 : Nat) : Int) == 0) = false := by simp; omega
    have hn0le := hn0s
    go_wp2_with fail
    refine wp_label ?_
    go_wp2_with fail
    try rw [hz2]
    clear hz2
    have kg : KB (w1.alloc (.cells #[.bool true, .string t, .slice none 0 0, .int .i64 (n0 : Int)] 54)) w1.heap.size t (.slice none 0 0) n0 := Blk.new w1 _ [_, _, _, _]
    have hBg := (Below.refl w1.heap.size w1).alloc (Nat.le_refl _) (.cells #[.bool true, .string t, .slice none 0 0, .int .i64 (n0 : Int)] 54)
    have hsh1 := hsh.below hB1
    obtain ⟨g, hg⟩ : ∃ g, w1.heap.size = g := ⟨_, rfl⟩
    rw [hg] at kg hBg ⊢
    have HG := Lib.hid hg
    have HK1 := Lib.hid k1
    clear hg k1 k0
    go_loopw [7] (fun _ wr => ∃ (l : List (Nat × ByteArray × Nat)) (v : Value) (u : Nat), u ≤ s.size ∧ KB wr g t v u ∧ wr.ownsRow (g + 1) 51 2 v l.length (flatR l) ∧ Hid (recsAt s n0 = l ++ recsAt s u ∧ u = endOf n0 l ∧ l.length ≤ u) ∧ Below g w1 wr) (fun _ wr => s.size - usedOf g wr)
    case atStart => exact ⟨[], .slice none 0 0, n0, hn0le, kg, World.ownsRow_nil _ _ _ _, ⟨rfl, rfl, Nat.zero_le _⟩, hBg⟩
    case round =>
      clear kg hBg
      obtain ⟨l, v, u, hu, kb, hrow, H, hB⟩ := hrel
      obtain ⟨va, vc, rfl⟩ := own_slice hrow
      have hgr := kb.lt
      have hlu := H.out.2.2
      have hsr : Shifts wr := hsh1.below (by rw [HG.out]; exact hB)
      have hle := recR_le (s.extract u s.size)
      rw [ByteArray.size_extract] at hle
      have hrec := srecord_any (s.extract u s.size) wr (by rw [ByteArray.size_extract]; omega) hsr
      have hstep := recsAt_eq s u hu
      generalize recR (s.extract u s.size) = rr at *
      obtain ⟨k, d, n⟩ := rr
      simp only [] at hrec hstep hle
      have c0 := kb.cell 0
      have c1 := kb.cell 1
      have c2 := kb.cell 2
      have c3 := kb.cell 3
      simp only [List.getElem?_cons_zero, List.getElem?_cons_succ] at c0 c1 c2 c3
      have HR := Lib.hid hrec
      have HL := Lib.hid hlu
      clear hrec hlu
      have hui : (u : Int) ≤ (s.size : Int) := by omega
      go_wp2_with fail
      refine HR.out.mono ?_
      rintro e w2 ⟨rfl, hb2⟩
      have kb2 : KB w2 g t (.slice va l.length vc) u := kb.below hb2 hgr
      have hrow2 := own_below hrow hb2
      have hB2 : Below g w1 w2 := hB.trans (hb2.mono (by omega))
      have hgr2 := kb2.lt
      have e0 := kb2.cell 0
      have e1 := kb2.cell 1
      have e2 := kb2.cell 2
      have e3 := kb2.cell 3
      have f2 := kb2.frozen 2 (by simp)
      have f3 := kb2.frozen 3 (by simp)
      simp only [List.getElem?_cons_zero, List.getElem?_cons_succ] at e0 e1 e2 e3
      by_cases hn : n = 0
      · subst hn
        rw [if_pos rfl] at hstep
        rw [hstep, List.append_nil] at H
        have HS := Lib.hid H
        clear hstep H
        have hwg : w.heap.size < g := by rw [← HG.out]; exact HK1.out.lt
        have kt : Blk w2 w.heap.size 54 [.bool false, .string ⟨#[]⟩, .slice none 0 0, .int .i64 0] := HK1.out.below hB2 hwg
        have r0 := kt.cell 0
        have r1 := kt.cell 1
        have r2 := kt.cell 2
        have r3 := kt.cell 3
        have q0 := kt.frozen 0 (by simp)
        have q1 := kt.frozen 1 (by simp)
        have q2 := kt.frozen 2 (by simp)
        have q3 := kt.frozen 3 (by simp)
        simp only [List.getElem?_cons_zero, List.getElem?_cons_succ] at r0 r1 r2 r3
        have hlt2 : w.heap.size < w2.heap.size := by omega
        have hfin := fun (k : Int) (d : ByteArray) => ((((kt.set_ 0 (.bool true)).set_ 1 (.string t)).set_ 2 (.slice va l.length vc)).set_ 3 (.int .i64 (u : Int))).alloc (.cells #[.int .u8 k, .string d] 51)
        have hrw := fun (k : Int) (d : ByteArray) => (own_set2 (own_set2 (own_set2 (own_set2 hrow2 w.heap.size 0 (.bool true) (by omega)) w.heap.size 1 (.string t) (by omega)) w.heap.size 2 (.slice va l.length vc) (by omega)) w.heap.size 3 (.int .i64 (u : Int)) (by omega)).alloc (.cells #[.int .u8 k, .string d] 51)
        have hbf : ∀ (o : Obj), Below w.heap.size w (((((w2.setCell ⟨w.heap.size, 0, none⟩ (.bool true)).setCell ⟨w.heap.size, 1, none⟩ (.string t)).setCell ⟨w.heap.size, 2, none⟩ (.slice va l.length vc)).setCell ⟨w.heap.size, 3, none⟩ (.int .i64 (u : Int))).alloc o) := fun o => by
          have h1 : Below w.heap.size w w2 := hB1.trans (hB2.mono (by omega))
          exact ((((h1.setCell (p := ⟨w.heap.size, 0, none⟩) (Nat.le_refl _) _).setCell (p := ⟨w.heap.size, 1, none⟩) (Nat.le_refl _) _).setCell (p := ⟨w.heap.size, 2, none⟩) (Nat.le_refl _) _).setCell (p := ⟨w.heap.size, 3, none⟩) (Nat.le_refl _) _).alloc (by simp [World.setCell]; omega) o
        have FF := Lib.hid (And.intro hfin (And.intro hrw hbf))
        clear hfin hrw hbf kt
        go_wp2_with fail
        rw [Exit.noGoto_ret]
        have d0 := (FF.out.1 (k : Int) d).cell 0
        have d1 := (FF.out.1 (k : Int) d).cell 1
        have d2 := (FF.out.1 (k : Int) d).cell 2
        have d3 := (FF.out.1 (k : Int) d).cell 3
        simp only [List.set_cons_zero, List.set_cons_succ, List.getElem?_cons_zero, List.getElem?_cons_succ] at d0 d1 d2 d3
        refine bodyPost_ret (v := .agg #[.bool true, .string t, .slice va l.length vc, .int .i64 (u : Int)]) (by simp [results, Tryz.results15, go_sem, d0, d1, d2, d3]) rfl ⟨.inr ⟨hn0, .slice va l.length vc, ?_, ?_⟩, FF.out.2.2 _⟩
        · rw [HS.out.1, HS.out.2.1]
        · rw [HS.out.1]
          exact own_ge (FF.out.2.1 (k : Int) d) (by omega)
      · rw [if_neg hn] at hstep
        have H2 := Lib.hid (show recsAt s n0 = (l ++ [(k, d, u + n)]) ++ recsAt s (u + n) ∧ u + n = endOf n0 (l ++ [(k, d, u + n)]) ∧ (l ++ [(k, d, u + n)]).length ≤ u + n from
          ⟨by rw [H.out.1, hstep, List.append_assoc]; rfl, by rw [endOf_snoc], by rw [List.length_append, List.length_singleton]; have := HL.out; omega⟩)
        have hll : l.length ≤ 1000000 := by have := HL.out; omega
        clear hstep H
        go_wp2_with (at_builtin; refine app_rec (w2.alloc (.cells #[.int .u8 (k : Int), .string d] 51)) rfl _ _ rfl (g + 1) (.slice va l.length vc) l.length (flatR l) (k : Int) d rfl (hrow2.alloc _) (w2.heap.size + 1) (by simp) rfl hll (by simp; omega) ?_; intro g' cap' w4 hown4 hb4; have kb4 : KB w4 g t (.slice va l.length vc) u := Blk.below (Blk.alloc kb2 _) hb4 (Nat.lt_succ_self g); have x2 := kb4.cell 2; have x3 := kb4.cell 3; have y2 := kb4.frozen 2 (by simp); have y3 := kb4.frozen 3 (by simp); simp only [List.getElem?_cons_zero, List.getElem?_cons_succ] at x2 x3)
        have kb5 : Blk ((w4.setCell ⟨g, 2, none⟩ (.slice (some ⟨g', 0, none⟩) (l.length + 1) cap')).setCell ⟨g, 3, none⟩ (.int .i64 ((u + n : Nat) : Int))) g 54 [.bool true, .string t, .slice (some ⟨g', 0, none⟩) (l.length + 1) cap', .int .i64 ((u + n : Nat) : Int)] := (Blk.set_ kb4 2 _).set_ 3 _
        have hus : usedOf g wr = u := by
          unfold usedOf
          rw [c3]
          exact Int.toNat_natCast u
        have hus2 := kb5.cell 3
        go_roundw
        case rel =>
          refine ⟨l ++ [(k, d, u + n)], .slice (some ⟨g', 0, none⟩) (l.length + 1) cap', u + n, by omega, ?_, ?_, H2, ?_⟩
          · rw [← Int.natCast_add]; exact kb5
          · rw [flatR_snoc, List.length_append, List.length_singleton]
            exact own_set2 (own_set2 hown4 g 2 _ (Nat.lt_succ_self g)) g 3 _ (Nat.lt_succ_self g)
          · have h1 : Below g w1 w4 := (hB2.alloc (by omega) _).trans (hb4.mono (by omega))
            exact (h1.setCell (p := ⟨g, 2, none⟩) (Nat.le_refl _) _).setCell (p := ⟨g, 3, none⟩) (Nat.le_refl _) _
        case measure =>
          rw [hus]
          have : usedOf g ((w4.setCell ⟨g, 2, none⟩ (.slice (some ⟨g', 0, none⟩) (l.length + 1) cap')).setCell ⟨g, 3, none⟩ (.int .i64 ((u : Int) + (n : Int)))) = u + n := by
            rw [← Int.natCast_add]
            unfold usedOf
            rw [hus2]
            exact Int.toNat_natCast (u + n)
          rw [this]
          omega
end Go.Proofs.YtpnllalefpkcjaaGreatDoor.Store
