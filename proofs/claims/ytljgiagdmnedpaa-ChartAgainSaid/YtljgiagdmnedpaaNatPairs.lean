/-
nat.pairs: the limbs of two numbers side by side, as a function to range over.
-/
import Derived.Test.YtljgiagdmnedpaaNatTold
import Derived.Test.YtljgiagdmnedpaaStillIn
import Derived.Laws.EntriesVeiled
namespace Go.Proofs.Ytljgiagdmnedpaa.Nat_
open Go.RowKit Go.Shelf

attribute [local go_sem] Oper.semAt_some

/-- A limb. -/
abbrev Limb := { x : Nat // x < 18446744073709551616 }
def dg (l : List Nat) (h : ∀ x ∈ l, x < 18446744073709551616) (i : Nat) : Limb := ⟨digit l i, digit_lt l h i⟩
/-- What comes at place j. -/
def pairAt (l m : List Nat) (hl : ∀ x ∈ l, x < 18446744073709551616) (hm : ∀ x ∈ m, x < 18446744073709551616) (j : Nat) : Nat × Limb × Limb := (j, dg l hl j, dg m hm j)
def encP (x : Nat × Limb × Limb) : Array Value := #[.int .i64 (x.1 : Int), .agg #[.int .u64 (x.2.1.1 : Int), .int .u64 (x.2.2.1 : Int)]]
def upto {α : Type} (f : Nat → α) (k : Nat) : List α := (List.range k).map f
theorem upto_succ {α : Type} (f : Nat → α) (k : Nat) : upto f (k + 1) = upto f k ++ [f k] := by simp [upto, List.range_succ]
theorem upto_length {α : Type} (f : Nat → α) (k : Nat) : (upto f k).length = k := by simp [upto]

theorem at_any (v : Value) (l : List Nat) (i : Nat) (w : World) (h : Lb w v l) :
    Calls Try.prog 57 #[v, .int .i64 (i : Int)] w fun e w' => e = .returned (.int .u64 (digit l i : Int)) ∧ w' = w := by
  obtain ⟨a, len, cap, rfl, h1, h2, h3, h0, h4, h5⟩ := h
  have A : Go.Aside (∀ x ∈ l, x < 18446744073709551616) := h4
  clear h4
  by_cases hi : i < len
  · obtain ⟨b, off, rfl, hbw, hc⟩ := h5 (by omega)
    have hk : i < l.length := by omega
    have hck := hc i _ (List.getElem?_eq_getElem hk)
    have hd := digit_in l i _ (List.getElem?_eq_getElem hk)
    have hlt := A.out l[i] (List.getElem_mem hk)
    unfold limbV at hck
    clear hc
    rw [hd]
    generalize l[i] = x at *
    go_enter Try.func57, Try.ntmps57
    go_wp2
    go_ret
    exact ⟨rfl, rfl⟩
  · rw [digit_out l i (by omega)]
    go_enter Try.func57, Try.ntmps57
    go_wp2
    go_ret
    exact ⟨rfl, rfl⟩
theorem pairs_in (n : Nat) (a a' : Option Addr) (l c l' c' : Nat) (w : World) :
    CallsIn Fence.wide n Try.prog 43 #[.slice a l c, .slice a' l' c'] w fun e w' =>
      e = .returned (.func (.func 58) #[] #[.pointer (some ⟨w.heap.size, 0, none⟩), .pointer (some ⟨w.heap.size + 1, 0, none⟩), .pointer (some ⟨w.heap.size + 2, 0, none⟩)]) ∧
      w' = ((w.alloc (.cells #[.slice a l c] 31)).alloc (.cells #[.slice a' l' c'] 31)).alloc (.cells #[.func (.func 57) #[] #[]] 109) := by
  refine callsIn_of_wp Try.func43 rfl trivial ?_ rfl
  simp only [Try.ntmps43, List.size_toArray, List.length_cons, List.length_nil, Nat.reduceAdd, Nat.reduceSub, Array.replicate_succ, Array.replicate_zero, List.push_toArray, List.append_toArray, List.nil_append, List.cons_append]
  gi_wp2
  go_ret
  exact ⟨rfl, rfl⟩

set_option maxRecDepth 100000 in
set_option maxHeartbeats 2000000 in
theorem pairs2_in (n : Nat) (hn : 1 ≤ n) (L B : Nat) (Kp : World → World → Prop) (v u : Value) (l m : List Nat) (hl : ∀ x ∈ l, x < 18446744073709551616) (hm : ∀ x ∈ m, x < 18446744073709551616) (J Jx : List (Nat × Limb × Limb) → World → Prop)
    (hJ : ∀ pre W, J pre W → J pre W.drew) (kr : ∀ W, Kp W W) (kt : ∀ {A B C : World}, Kp A B → Kp B C → Kp A C) (kd : ∀ W, Kp W W.drew)
    (hY : ∀ pre x W, J pre W → pre.length < max l.length m.length → YieldAt Fence.wide (n - 1) Try.prog L (encP x) W fun e W' =>
      (e = .returned (.bool true) ∧ J (pre ++ [x]) W' ∧ Kp W W') ∨ (e = .returned (.bool false) ∧ Jx (pre ++ [x]) W'))
    (W : World) (hc0 : W.cell? ⟨B, 0, none⟩ = some v) (hc1 : W.cell? ⟨B + 1, 0, none⟩ = some u)
    (hv : Lb W v l) (hu : Lb W u m) (hold : ∀ W', Kp W W' → W'.cell? ⟨B, 0, none⟩ = some v ∧ W'.cell? ⟨B + 1, 0, none⟩ = some u ∧ W'.cell? ⟨B + 2, 0, none⟩ = some (.func (.func 57) #[] #[]) ∧ Lb W' v l ∧ Lb W' u m) (h0 : J [] W) :
    CallsIn Fence.wide n Try.prog 58 #[.func (.yield L) #[] #[], .pointer (some ⟨B, 0, none⟩), .pointer (some ⟨B + 1, 0, none⟩), .pointer (some ⟨B + 2, 0, none⟩)] W fun e W' => (∃ v, e = .returned v) ∧
      ((∃ ys, ys = upto (pairAt l m hl hm) (max l.length m.length) ∧ J ys W') ∨ (∃ pre, (∃ k, k ≤ max l.length m.length ∧ pre = upto (pairAt l m hl hm) k) ∧ Jx pre W')) := by
  have hv0 := hv
  have hu0 := hu
  obtain ⟨a, len, cap, rfl, h1, -, -, h2, -⟩ := hv
  obtain ⟨a', len', cap', rfl, h1', -, -, h2', -⟩ := hu
  subst h1 h1'
  refine callsIn_of_wp Try.func58 rfl trivial ?_ rfl
  simp only [Try.ntmps58, List.size_toArray, List.length_cons, List.length_nil, Nat.reduceAdd, Nat.reduceSub, Array.replicate_succ, Array.replicate_zero, List.push_toArray, List.append_toArray, List.nil_append, List.cons_append]
  gi_wp2
  have hmx : Try.prog.follows .mixedOrders = true := by kernel_rfl
  gi_loopw [11] (fun i wr => ∃ k : Nat, k ≤ max l.length m.length ∧ i = .int .i64 k ∧ J (upto (pairAt l m hl hm) k) wr ∧ Kp W wr)
    (fun i _ => max l.length m.length - (intOf i).toNat)
  case atStart => exact ⟨0, Nat.zero_le _, rfl, h0, kr _⟩
  case round =>
    obtain ⟨k, hk, rfl, hJs, hnx⟩ := hrel
    by_cases hlt : k < max l.length m.length
    · have hd := hJ _ _ hJs
      obtain ⟨fn, tmps, assign, body, hy, hR⟩ := hY _ (pairAt l m hl hm k) wr.drew hd (by rw [upto_length]; exact hlt)
      simp only [encP, pairAt, dg] at hy
      have hb2 := kt hnx (kd _)
      obtain ⟨hd0, hd1, hd2, hvd, hud⟩ := hold _ hb2
      gi_wp2
      refine wpIn_region_still_tail 11 hmx (by kernel_rfl) ?_
      simp only [List.take_succ_cons, List.take_zero, List.drop_succ_cons, List.drop_zero]
      iterate 5 still_step
      still_call (at_any _ l k _ hvd)
      iterate 3 still_step
      still_call (at_any _ m k _ hud)
      still_step
      refine wpStill_nil ?_
      gi_wp2
      refine hR.mono ?_
      rintro e W3 (⟨rfl, hJ3, hk3⟩ | ⟨rfl, hJx3⟩)
      · gi_wp2
        go_roundw
        case rel => exact ⟨k + 1, by omega, by simp, by rw [upto_succ]; exact hJ3, kt hb2 hk3⟩
        case measure => simp [intOf]; omega
      · gi_wp2
        refine bodyPost_ret (results_none rfl _ _ _) rfl ?_
        exact ⟨⟨_, rfl⟩, .inr ⟨_, ⟨k + 1, by omega, (upto_succ _ _).symm⟩, hJx3⟩⟩
    · obtain rfl : k = max l.length m.length := by omega
      gi_wp2
      go_end0
      exact ⟨⟨_, rfl⟩, .inl ⟨_, rfl, hJs⟩⟩

/-- What a round of a loop over pairs must leave: all below n₀, and the three boxes from lo on. -/
def Kp (n₀ lo : Nat) (W W' : World) : Prop := Below n₀ W W' ∧ ∀ k, lo ≤ k → k < lo + 3 → W'.heap[k]? = W.heap[k]?
theorem Kp.refl {n₀ lo : Nat} (W : World) : Kp n₀ lo W W := ⟨Below.refl _ _, fun _ _ _ => rfl⟩
theorem Kp.trans {n₀ lo : Nat} {A B C : World} (h : Kp n₀ lo A B) (k : Kp n₀ lo B C) : Kp n₀ lo A C := ⟨h.1.trans k.1, fun j h1 h2 => (k.2 j h1 h2).trans (h.2 j h1 h2)⟩
theorem Kp.drew {n₀ lo : Nat} (W : World) : Kp n₀ lo W W.drew := ⟨(Below.refl _ _).drew, fun _ _ _ => rfl⟩
theorem Kp.of_below {n₀ lo : Nat} {W W' : World} (h : Below (lo + 3) W W') (hn : n₀ ≤ lo) : Kp n₀ lo W W' := ⟨h.mono (by omega), fun k _ h2 => h.block k h2⟩
theorem Kp.set {n₀ lo : Nat} (W : World) (b : Nat) (u : Value) (h1 : n₀ ≤ b) (h2 : b < lo) : Kp n₀ lo W (W.setCell ⟨b, 0, none⟩ u) :=
  ⟨(Below.refl n₀ W).setCell (p := ⟨b, 0, none⟩) h1 u, fun k hk _ => Below.heap_setCell W _ u k (by show k ≠ b; omega)⟩
theorem kp_b {n₀ lo : Nat} {w : World} (hn : n₀ ≤ w.heap.size) (hl : lo + 3 ≤ w.heap.size) (W : World) (l : Nat) (o o' : Obj) (h1 : w.heap.size ≤ l) (h : W.heap[l]? = some o) (_ : o.isCells = false) (_ : o.isWalk = false) : Kp n₀ lo W (W.putObj l o') := by
  have hg := grownBy_putObj' W l o'
  exact ⟨(Below.refl n₀ W).grown hg (by have := (Array.getElem?_eq_some_iff.1 h).1; omega) (fun k e => by cases e; omega),
    fun k _ h3 => hg.block k (by have := (Array.getElem?_eq_some_iff.1 h).1; omega) (by intro e; injection e with e; omega)⟩

/-- The function that nat.pairs hands back, as a loop takes it. -/
theorem pairs_stops (n : Nat) (hn : 1 ≤ n) (B n₀ : Nat) (v u : Value) (l m : List Nat) (hl : ∀ x ∈ l, x < 18446744073709551616) (hm : ∀ x ∈ m, x < 18446744073709551616) (w₀ w : World)
    (hv : Lb w₀ v l) (hu : Lb w₀ u m) (h₀ : w₀.heap.size ≤ n₀) (hb : Below w₀.heap.size w₀ w) (hB : B + 3 ≤ w.heap.size) (hn₀ : n₀ ≤ B)
    (hc0 : w.cell? ⟨B, 0, none⟩ = some v) (hc1 : w.cell? ⟨B + 1, 0, none⟩ = some u) (hc2 : w.cell? ⟨B + 2, 0, none⟩ = some (.func (.func 57) #[] #[])) :
    SeqStopsK Fence.wide n Try.prog 58 #[.pointer (some ⟨B, 0, none⟩), .pointer (some ⟨B + 1, 0, none⟩), .pointer (some ⟨B + 2, 0, none⟩)] encP (Kp n₀ B)
      (fun ys => ys = upto (pairAt l m hl hm) (max l.length m.length)) (fun pre => ∃ k, k ≤ max l.length m.length ∧ pre = upto (pairAt l m hl hm) k) (max l.length m.length) w := fun L J Jx W hW hJ _ hY h0 => by
  have hk : ∀ (X : World), Kp n₀ B W X → X.cell? ⟨B, 0, none⟩ = some v ∧ X.cell? ⟨B + 1, 0, none⟩ = some u ∧ X.cell? ⟨B + 2, 0, none⟩ = some (.func (.func 57) #[] #[]) ∧ Lb X v l ∧ Lb X u m := by
    intro X hX
    have hcell : ∀ k, B ≤ k → k < B + 3 → X.cell? ⟨k, 0, none⟩ = w.cell? ⟨k, 0, none⟩ := by
      intro k h1 h2
      have e1 := hX.2 k h1 h2
      have e2 := hW.block k (by omega)
      unfold World.cell?
      simp only [e1, e2]
    have hb1 : Below w₀.heap.size w₀ X := (hb.trans (hW.mono (by omega))).trans (hX.1.mono h₀)
    exact ⟨(hcell B (by omega) (by omega)).trans hc0, (hcell (B + 1) (by omega) (by omega)).trans hc1, (hcell (B + 2) (by omega) (by omega)).trans hc2, hv.below hb1, hu.below hb1⟩
  obtain ⟨e0, e1, -, ev, eu⟩ := hk W (Kp.refl W)
  exact pairs2_in n hn L B (Kp n₀ B) v u l m hl hm J Jx (fun pre W' h => hJ pre W' _ none h ⟨rfl, rfl, rfl, Nat.le_refl _, fun _ _ _ => rfl⟩ (fun r e => by cases e)) Kp.refl Kp.trans Kp.drew hY W e0 e1 ev eu hk h0

/-- Block B holds just two cells. -/
def Boxed2 (W : World) (B : Nat) (t : TypeId) (u v : Value) : Prop := W.heap[B]? = some (.cells #[u, v] t (0, 0))
theorem Boxed2.cell0 {W : World} {B : Nat} {t : TypeId} {u v : Value} (h : Boxed2 W B t u v) : W.cell? ⟨B, 0, none⟩ = some u := by simp [World.cell?, show W.heap[B]? = _ from h]
theorem Boxed2.cell1 {W : World} {B : Nat} {t : TypeId} {u v : Value} (h : Boxed2 W B t u v) : W.cell? ⟨B, 1, none⟩ = some v := by simp [World.cell?, show W.heap[B]? = _ from h]
theorem Boxed2.lt {W : World} {B : Nat} {t : TypeId} {u v : Value} (h : Boxed2 W B t u v) : B < W.heap.size := (Array.getElem?_eq_some_iff.1 h).1
theorem Boxed2.new (W : World) (t : TypeId) (u v : Value) : Boxed2 (W.alloc (.cells #[u, v] t)) W.heap.size t u v := World.alloc_heap_new W _
theorem Boxed2.own {W W' : World} {B : Nat} {t : TypeId} {u v : Value} {row : Option Nat} (h : Boxed2 W B t u v) (hg : W.grownBy W' row) (hr : ∀ r, row = some r → ∃ o : Obj, W.heap[r]? = some o ∧ o.isCells = false) : Boxed2 W' B t u v := by
  refine (hg.block B h.lt ?_).trans h
  intro e
  obtain ⟨o, ho, hc⟩ := hr B e.symm
  rw [show W.heap[B]? = _ from h] at ho
  cases ho
  cases hc
/-- What a walk owes where a row of its own has been lengthened: the box of the variable lies below the row's base. -/
theorem appended_low {W w1 : World} {base B : Nat} {t e : TypeId} {size : Nat} {v : Value} {k : Nat} {xs : List Value} {tmp : Obj}
    (hv : Boxed W B t v) (hrow : W.ownsRow base e size v k xs) (hB : B < base) (hbase : base ≤ W.heap.size)
    (hgrow : (W.alloc tmp).grownBy w1 v.ownBlock) : Boxed w1 B t v ∧ KeepsOthers W w1 ∧ Below base W w1 := by
  have hne : ∀ j, v.ownBlock = some j → base ≤ j ∧ ∃ o : Obj, (W.alloc tmp).heap[j]? = some o ∧ o.isCells = true := by
    intro j ej
    rcases (hrow.alloc tmp).2 with ⟨rfl, _⟩ | ⟨g, cap, cur, rfl, hb, hgb, _⟩
    · simp [Value.ownBlock] at ej
    · obtain rfl : g = j := by simpa [Value.ownBlock] using ej
      exact ⟨hb, _, hgb, rfl⟩
  refine ⟨(hv.alloc tmp).kept hgrow (fun e' => by have := (hne B e'.symm).1; omega), ?_, ?_⟩
  · refine (KeepsOthers.alloc W tmp).trans (KeepsOthers.of_grownBy hgrow fun j o ej hj => ?_)
    obtain ⟨-, o', ho', hc⟩ := hne j ej
    rw [ho'] at hj
    cases hj
    exact hc
  · exact ((Below.refl base W).alloc hbase tmp).grown hgrow (by simp; omega) (fun j ej => (hne j ej).1)
theorem boxed_set {W : World} {B b : Nat} {t : TypeId} {v u : Value} (h : Boxed W B t v) (hb : B ≠ b) : Boxed (W.setCell ⟨b, 0, none⟩ u) B t v := (Below.heap_setCell W _ u B hb).trans h
theorem own_set {W : World} {base : Nat} {e : TypeId} {size : Nat} {v : Value} {k : Nat} {xs : List Value} (h : W.ownsRow base e size v k xs) (b : Nat) (u : Value) (hb : b < base) : (W.setCell ⟨b, 0, none⟩ u).ownsRow base e size v k xs := by
  refine h.kept (grownBy_setCell' W b u) ?_
  rcases h.2 with ⟨rfl, _⟩ | ⟨g, cap, cur, rfl, hg, _⟩
  · exact .inl rfl
  · exact .inr fun e => by
      have : b = g := by simpa [Value.ownBlock] using e.symm
      omega
end Go.Proofs.Ytljgiagdmnedpaa.Nat_
