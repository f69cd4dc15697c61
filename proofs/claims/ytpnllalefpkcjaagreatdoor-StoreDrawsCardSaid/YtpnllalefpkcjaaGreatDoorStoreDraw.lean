/-
Contracts of store.told and PutDraw.
-/
import Derived.Test.YtpnllalefpkcjaaGreatDoorStorePlace
namespace Go.Proofs.YtpnllalefpkcjaaGreatDoor.Store
open Go.RowKit Nat_

def toldV (t : ByteArray) : Value := if 65536 < t.size then .tuple #[.string ByteArray.empty, .int .i64 3] else .tuple #[.string t, .int .i64 0]
theorem stold_any (x y : ByteArray) (W : World) (hx : x.size ≤ 1000000) (hy : y.size ≤ 1000000) (V : World) (hV : V = W.alloc (.cells #[.string x, .string y] 9) ∨ V = (W.alloc (.cells #[.string x, .string y] 9)).drew) :
    Calls Tryz.prog 19 #[.slice (some ⟨W.heap.size, 0, none⟩) 2 2] V fun e w' => e = .returned (toldV (x ++ y)) ∧ Below W.heap.size W w' := by
  have hb0 : Below W.heap.size W V := by
    rcases hV with rfl | rfl
    · exact (Below.refl _ _).alloc (Nat.le_refl _) _
    · exact ((Below.refl _ _).alloc (Nat.le_refl _) _).drew
  have hblk : Blk V W.heap.size 9 [.string x, .string y] := by
    rcases hV with rfl | rfl
    · exact Blk.new W _ [_, _]
    · exact (Blk.new W _ [_, _]).drew
  have hj : Lib.join ([x, y].map (·.data.toList)) (⟨#[]⟩ : ByteArray).data.toList = x.data.toList ++ y.data.toList := by simp [Lib.join]
  have c := Tryz.strings_Join W.heap.size 0 2 [x, y] ⟨#[]⟩ V (fun j z hz => by
    rw [Nat.zero_add, hblk.cell]
    match j, hz with
    | 0, hz => simp at hz; simp [hz]
    | 1, hz => simp at hz; simp [hz]) hblk.lt (by simp) (by simp) (by rw [hj, List.length_append]; simp; omega)
  rw [hj] at c
  have hxy : (⟨(x.data.toList ++ y.data.toList).toArray⟩ : ByteArray) = x ++ y := by
    apply ByteArray.ext
    apply Array.ext'
    simp
  rw [hxy] at c
  have hsz : (x ++ y).size ≤ 2000000 := by rw [ByteArray.size_append]; omega
  generalize x ++ y = t at *
  have C := Lib.hid c
  clear c hxy hj hblk hV
  unfold toldV
  by_cases h : 65536 < t.size
  · rw [if_pos h]
    go_enter Tryz.func19, Tryz.ntmps19
    go_wp2_with fail
    refine C.out.mono ?_
    rintro e w' ⟨rfl, hb⟩
    go_wp2_with fail
    go_ret2
    exact ⟨rfl, hb0.trans (hb.mono hb0.size)⟩
  · rw [if_neg h]
    go_enter Tryz.func19, Tryz.ntmps19
    go_wp2_with fail
    refine C.out.mono ?_
    rintro e w' ⟨rfl, hb⟩
    go_wp2_with fail
    go_ret2
    exact ⟨rfl, hb0.trans (hb.mono hb0.size)⟩
def drawV (k : Nat) (zs : List (Bool × Value × Nat)) : Value :=
  if 3 < k ∨ mayB zs = false then .tuple #[.string ByteArray.empty, .int .i64 2] else toldV (Notch.encB [k] ++ txtB (placeL zs))
theorem encT_len (l : List UInt8) (h : l.length ≤ 1000000) : (Notch.encT l).length ≤ l.length + 9 := by
  have := textB_size (txtB l) (by show l.toArray.size ≤ _; rw [List.size_toArray]; exact h)
  have e1 : (Notch.textB (txtB l)).size = (Notch.encT l).length := by
    show (Notch.encT l).toArray.size = _
    rw [List.size_toArray]
  have e2 : (txtB l).size = l.length := by show l.toArray.size = _; rw [List.size_toArray]
  omega
theorem place_len (zs : List (Bool × Value × Nat)) (h : zs.length ≤ 200) (hz : ∀ z ∈ zs, nl z.2.2 ≤ 64) : (placeL zs).length ≤ 9 + 1300 * zs.length := by
  unfold placeL
  rw [List.length_append]
  have h1 : (Notch.encL zs.length).length ≤ 9 := by
    rw [Notch.encL_length]
    have := Notch.nb_le zs.length (by omega)
    omega
  have h2 : ∀ l : List (Bool × Value × Nat), (∀ z ∈ l, nl z.2.2 ≤ 64) → (l.flatMap fun z => Notch.encT (zdecs z.1 z.2.2)).length ≤ 1300 * l.length := by
    intro l
    induction l with
    | nil => intro _; simp
    | cons z l ih =>
      intro hl
      have h3 := zdecs_len z.1 z.2.2 (hl z List.mem_cons_self)
      have h4 := encT_len (zdecs z.1 z.2.2) (by omega)
      have h5 := ih (fun y hy => hl y (List.mem_cons_of_mem _ hy))
      rw [List.flatMap_cons, List.length_append, List.length_cons]
      omega
  have := h2 zs hz
  omega
set_option maxRecDepth 100000 in
set_option maxHeartbeats 2000000 in
theorem putDraw_any (k : Nat) (a : Option Addr) (len cap : Nat) (zs : List (Bool × Value × Nat)) (w : World) (hk : k < 256) (h : Zs w a len zs) (hlen : len ≤ 1000000) :
    Calls Tryz.prog 6 #[.agg #[.slice a len cap, .int .u8 (k : Int)]] w fun e w' => e = .returned (drawV k zs) ∧ Below w.heap.size w w' := by
  unfold drawV
  have hal := (Below.refl w.heap.size w).alloc (Nat.le_refl _) (.cells #[.slice a len cap, .int .u8 (k : Int)] 25)
  by_cases h3 : 3 < k
  · rw [if_pos (Or.inl h3)]
    go_enter Tryz.func6, Tryz.ntmps6
    go_wp2_with fail
    go_ret2
    exact ⟨rfl, hal⟩
  have hm := may_any a len cap zs _ (h.below hal) hlen
  cases hmb : mayB zs with
  | false =>
    rw [if_pos (Or.inr rfl)]
    rw [hmb] at hm
    have HM := Lib.hid hm
    clear hm
    go_enter Tryz.func6, Tryz.ntmps6
    go_wp2_with fail
    refine HM.out.mono ?_
    rintro e w1 ⟨rfl, hb⟩
    go_wp2_with fail
    go_ret2
    exact ⟨rfl, hal.trans (hb.mono (by simp))⟩
  | true =>
    rw [if_neg (by simp; omega)]
    rw [hmb] at hm
    have HM := Lib.hid hm
    clear hm
    unfold mayB at hmb
    rw [Bool.and_eq_true, List.all_eq_true] at hmb
    obtain ⟨m1, m2⟩ := hmb
    have hl200 : len ≤ 200 := by have := of_decide_eq_true m1; have := h.1; omega
    have hz64 : ∀ z ∈ zs, nl z.2.2 ≤ 64 := fun z hz => of_decide_eq_true (m2 z hz)
    clear m1 m2
    go_enter Tryz.func6, Tryz.ntmps6
    go_wp2_with fail
    refine HM.out.mono ?_
    rintro e w0 ⟨rfl, hb⟩
    have hal0 : Below w.heap.size w w0 := hal.trans (hb.mono (by simp))
    have hblk : Blk w0 w.heap.size 25 [.slice a len cap, .int .u8 (k : Int)] := Blk.below (Blk.new w _ [_, _]) hb (by simp)
    have hcell : ∀ W, Below w0.heap.size w0 W → W.cell? ⟨w.heap.size, 0, none⟩ = some (.slice a len cap) ∧ W.cell? ⟨w.heap.size, 1, none⟩ = some (.int .u8 (k : Int)) ∧ w.heap.size < W.heap.size := fun W hb => by
      have := hblk.below hb hblk.lt
      exact ⟨this.cell 0, this.cell 1, this.lt⟩
    have hnum : ∀ W, Below w0.heap.size w0 W → Calls Tryz.prog 20 #[.slice (some ⟨W.heap.size, 0, none⟩) 1 1] (W.alloc (.cells #[.int .u64 (k : Int)] 26)) fun e w' => e = .returned (.string (Notch.encB [k])) ∧ Below w0.heap.size w0 w' := fun W hb => by
      refine (Notch.put_any (k : Int) W (by omega) (by omega) 26).mono ?_
      rintro e w' ⟨rfl, hb2⟩
      exact ⟨by rw [Int.toNat_natCast], hb.trans (hb2.mono hb.size)⟩
    have hnum2 : ∀ W, Below w0.heap.size w0 W → Calls Tryz.prog 20 #[.slice (some ⟨W.heap.size, 0, none⟩) 1 1] (W.alloc (.cells #[.int .u64 (k : Int)] 26)).drew fun e w' => e = .returned (.string (Notch.encB [k])) ∧ Below w0.heap.size w0 w' := fun W hb => by
      refine (Notch.nums_any _ 1 1 [(k : Int)] (W.alloc (.cells #[.int .u64 (k : Int)] 26)).drew (Notch.isInts_one W (k : Int) (by omega) (by omega) 26) (by decide)).mono ?_
      rintro e w' ⟨rfl, hb2⟩
      have h1 := (below_al hb (.cells #[.int .u64 (k : Int)] 26)).drew
      exact ⟨by simp, h1.trans (hb2.mono h1.size)⟩
    have hplace : ∀ W, Below w0.heap.size w0 W → Calls Tryz.prog 21 #[.slice a len cap] W fun e w' => e = .returned (.string (txtB (placeL zs))) ∧ Below w0.heap.size w0 w' := fun W hb => by
      refine (place_any a len cap zs W ((h.below hal0).below hb) hl200 hz64).mono ?_
      rintro e w' ⟨rfl, hb2⟩
      exact ⟨rfl, hb.trans (hb2.mono hb.size)⟩
    have hz1 := Notch.encB_size k (by omega)
    have hz2 : (txtB (placeL zs)).size ≤ 1000000 := by
      show (placeL zs).toArray.size ≤ _
      rw [List.size_toArray]
      have := place_len zs (by have := h.1; omega) hz64
      have := h.1
      omega
    have htold : ∀ W, Below w0.heap.size w0 W → Calls Tryz.prog 19 #[.slice (some ⟨W.heap.size, 0, none⟩) 2 2] (W.alloc (.cells #[.string (Notch.encB [k]), .string (txtB (placeL zs))] 9)) fun e w' => e = .returned (toldV (Notch.encB [k] ++ txtB (placeL zs))) ∧ Below w0.heap.size w0 w' := fun W hb => by
      refine (stold_any _ _ W (by omega) hz2 _ (.inl rfl)).mono ?_
      rintro e w' ⟨rfl, hb2⟩
      exact ⟨rfl, hb.trans (hb2.mono hb.size)⟩
    have hfin : ∀ W, Below w0.heap.size w0 W → Below w.heap.size w W := fun W hb => hal0.trans (hb.mono hal0.size)
    have F := Lib.hid (And.intro hnum (And.intro hplace (And.intro htold (And.intro hcell hfin))))
    have F2 := Lib.hid hnum2
    have hwk : IntKind.u64.wrap (k : Int) = (k : Int) := by rw [IntKind.wrap_u64]; omega
    have hB0 : Below w0.heap.size w0 w0.drew := (Below.refl _ _).drew
    obtain ⟨c0, c1, c2⟩ := hcell _ hB0
    have z2 := hblk.lt
    have z0 := hblk.cell 0
    have z1 := hblk.cell 1
    simp only [List.getElem?_cons_zero, List.getElem?_cons_succ] at z0 z1
    have htv : toldV (Notch.encB [k] ++ txtB (placeL zs)) = .tuple #[.string (if 65536 < (Notch.encB [k] ++ txtB (placeL zs)).size then ByteArray.empty else (Notch.encB [k] ++ txtB (placeL zs))), .int .i64 (if 65536 < (Notch.encB [k] ++ txtB (placeL zs)).size then 3 else 0)] := by
      unfold toldV
      split <;> rfl
    rw [htv] at F
    generalize (if 65536 < (Notch.encB [k] ++ txtB (placeL zs)).size then ByteArray.empty else (Notch.encB [k] ++ txtB (placeL zs))) = R1 at *
    generalize (if 65536 < (Notch.encB [k] ++ txtB (placeL zs)).size then (3 : Int) else 0) = R2 at *
    have HTV := Lib.hid htv
    clear hnum hnum2 hplace htold hcell hfin hal0 hal HM htv
    generalize hx : Notch.encB [k] = x at *
    generalize hy : txtB (placeL zs) = y at *
    have HXY := Lib.hid (And.intro hx hy)
    clear hx hy
    go_wp2_with fail
    go_region_with (first
      | (go_at_call 20; refine (F2.out _ (by first | assumption | (exact Below.refl _ _))).mono ?_; rintro e wn ⟨rfl, hBn⟩; obtain ⟨n0, n1, n2⟩ := F.out.2.2.2.1 _ hBn)
      | (go_at_call 20; refine (F.out.1 _ (by first | assumption | (exact below_al (by assumption) _))).mono ?_; rintro e wn ⟨rfl, hBn⟩; obtain ⟨n0, n1, n2⟩ := F.out.2.2.2.1 _ hBn)
      | (go_at_call 21; refine (F.out.2.1 _ (by first | assumption | (exact below_al (by assumption) _))).mono ?_; rintro e wt ⟨rfl, hBt⟩; obtain ⟨t0, t1, t2⟩ := F.out.2.2.2.1 _ hBt)
      | (go_at_call 19; refine (F.out.2.2.1 _ (by first | assumption | (exact below_al (by assumption) _))).mono ?_; rintro e ws ⟨rfl, hBs⟩))
    all_goals (go_wp2_with fail; go_ret2; refine ⟨?_, F.out.2.2.2.2 _ hBs⟩; show _ = Ending.returned (toldV (Notch.encB [k] ++ txtB (placeL zs))); rw [HXY.out.1, HXY.out.2, HTV.out]; rfl)
end Go.Proofs.YtpnllalefpkcjaaGreatDoor.Store
