/-
Makers of steps in memory, what a call may turn of them; New, there, Len.
-/
import Derived.Test.YtljgiagdmnedpaaTapeMap
import Derived.Test.YtljgiagdmnedpaaZint
import Derived.Maps.AppendAt
import Derived.Carry
import Derived.Laws.Cover3
namespace Go.Proofs.Ytljgiagdmnedpaa.Tape_
open Go.RowKit Nat_

/-- From w to w' nothing turns but blocks of F; F' is what the maker has then. -/
structure Sp (F : Nat → Prop) (w : World) (F' : Nat → Prop) (w' : World) : Prop where
  os : w'.os = w.os
  tape : w'.tape = w.tape
  output : w'.output = w.output
  size : w.heap.size ≤ w'.heap.size
  block : ∀ k, k < w.heap.size → ¬ F k → w'.heap[k]? = w.heap[k]?
  foot : ∀ k, F' k → F k ∨ w.heap.size ≤ k
theorem Sp.refl (F : Nat → Prop) (w : World) : Sp F w F w := ⟨rfl, rfl, rfl, Nat.le_refl _, fun _ _ _ => rfl, fun _ h => .inl h⟩
theorem Sp.trans {F F1 F2 : Nat → Prop} {w w1 w2 : World} (h : Sp F w F1 w1) (k : Sp F1 w1 F2 w2) : Sp F w F2 w2 where
  os := k.os.trans h.os
  tape := k.tape.trans h.tape
  output := k.output.trans h.output
  size := Nat.le_trans h.size k.size
  block i hi hn := (k.block i (Nat.lt_of_lt_of_le hi h.size) (fun h1 => (h.foot i h1).elim hn (fun h2 => absurd hi (by omega)))).trans (h.block i hi hn)
  foot i hi := by
    rcases k.foot i hi with h1 | h1
    · exact h.foot i h1
    · exact .inr (Nat.le_trans h.size h1)
theorem Sp.of_below {F : Nat → Prop} {w w' : World} (h : Below w.heap.size w w') : Sp F w F w' := ⟨h.os, h.tape, h.output, h.size, fun k hk _ => h.block k hk, fun _ h => .inl h⟩
theorem Sp.below {F F' : Nat → Prop} {w w1 w2 : World} (h : Sp F w F' w1) (k : Below w1.heap.size w1 w2) : Sp F w F' w2 := h.trans (.of_below k)
theorem Sp.blk {F F' : Nat → Prop} {w w' : World} {g : Nat} {t : TypeId} {cs : List Value} (h : Sp F w F' w') (hb : Blk w g t cs) (hg : ¬ F g) : Blk w' g t cs := hb.of_same (h.block g hb.lt hg)
/-- The same, for blocks that lie below B. -/
theorem Sp.toBelow {F F' : Nat → Prop} {B : Nat} {w w' : World} (h : Sp F w F' w') (hB : B ≤ w.heap.size) (hF : ∀ k, F k → B ≤ k) : Below B w w' :=
  ⟨h.os, h.tape, h.output, h.size, fun k hk => h.block k (Nat.lt_of_lt_of_le hk hB) (fun h1 => absurd (hF k h1) (by omega))⟩

/-- Behind the pointer to block M there is a maker of at most B steps, with pars parameters, that has made the keys L; all that it turns is in F. -/
def Mkr (w : World) (M : Nat) (F : Nat → Prop) (B pars : Nat) (L : List Key) : Prop :=
  ∃ b v xs, Blk w M 46 [.int .i64 (B : Int), .int .i64 (pars : Int), v, .map (some b)] ∧ MapAt w b L ∧ w.ownsRow 0 49 6 v L.length xs ∧ M ≠ b ∧ v.ownBlock ≠ some M ∧ v.ownBlock ≠ some b ∧
    F M ∧ F b ∧ (∀ g, v.ownBlock = some g → F g) ∧ (∀ k, F k → k < w.heap.size) ∧ L.length ≤ B ∧ B ≤ 20000 ∧ pars ≤ 200
theorem Mkr.same {w w' : World} {M : Nat} {F : Nat → Prop} {B pars : Nat} {L : List Key} (h : Mkr w M F B pars L) (hs : w.heap.size ≤ w'.heap.size) (hb : ∀ k, F k → w'.heap[k]? = w.heap[k]?) : Mkr w' M F B pars L := by
  obtain ⟨b, v, xs, h1, h2, h3, h4, h5, h6, h7, h8, h9, h10, h11⟩ := h
  refine ⟨b, v, xs, h1.of_same (hb M h7), h2.of_same (hb b h8), ?_, h4, h5, h6, h7, h8, h9, fun k hk => Nat.lt_of_lt_of_le (h10 k hk) hs, h11⟩
  refine ⟨h3.1, ?_⟩
  rcases h3.2 with hn | ⟨g, cap, cur, e1, e2, e3, e4⟩
  · exact .inl hn
  · refine .inr ⟨g, cap, cur, e1, e2, (hb g (h9 g (by rw [e1]; rfl))).trans e3, e4⟩
theorem Mkr.below {w w' : World} {M : Nat} {F : Nat → Prop} {B pars : Nat} {L : List Key} (h : Mkr w M F B pars L) (hb : Below w.heap.size w w') : Mkr w' M F B pars L :=
  h.same hb.size fun k hk => hb.block k (by obtain ⟨b, v, xs, h1, h2, h3, h4, h5, h6, h7, h8, h9, h10, h11⟩ := h; exact h10 k hk)
/-- Another maker's calls leave it as it is. -/
theorem Mkr.other {w w' : World} {M : Nat} {F G G' : Nat → Prop} {B pars : Nat} {L : List Key} (h : Mkr w M F B pars L) (hs : Sp G w G' w') (hd : ∀ k, F k → ¬ G k) : Mkr w' M F B pars L :=
  h.same hs.size fun k hk => hs.block k (by obtain ⟨b, v, xs, h1, h2, h3, h4, h5, h6, h7, h8, h9, h10, h11⟩ := h; exact h10 k hk) (hd k hk)
theorem Mkr.lt {w : World} {M : Nat} {F : Nat → Prop} {B pars : Nat} {L : List Key} (h : Mkr w M F B pars L) : M < w.heap.size := by
  obtain ⟨b, v, xs, h1, -⟩ := h
  exact h1.lt
theorem Mkr.has {w : World} {M : Nat} {F : Nat → Prop} {B pars : Nat} {L : List Key} (h : Mkr w M F B pars L) : F M ∧ ∀ k, F k → k < w.heap.size := by
  obtain ⟨b, v, xs, h1, h2, h3, h4, h5, h6, h7, h8, h9, h10, h11⟩ := h
  exact ⟨h7, h10⟩
theorem Mkr.bounds {w : World} {M : Nat} {F : Nat → Prop} {B pars : Nat} {L : List Key} (h : Mkr w M F B pars L) : L.length ≤ B ∧ B ≤ 20000 ∧ pars ≤ 200 := by
  obtain ⟨b, v, xs, h1, h2, h3, h4, h5, h6, h7, h8, h9, h10, h11⟩ := h
  exact h11

/-- New, of a budget that may be. -/
theorem new_ok (B : Nat) (w : World) (h0 : 1 ≤ B) (h1 : B ≤ 20000) :
    Calls Try.prog 4 #[.int .i64 (B : Int)] w fun e w' => ∃ M F, e = .returned (.tuple #[.pointer (some ⟨M, 0, none⟩), .int .i64 0]) ∧ Mkr w' M F B 0 [] ∧ Below w.heap.size w w' ∧ ∀ k, F k → w.heap.size ≤ k := by
  have hmm := @run_makeMap Try.prog
  go_enter Try.func4, Try.ntmps4
  go_wp2_with fail
  refine bodyPost_ret (v := .tuple #[.pointer (some ⟨w.heap.size + 1, 0, none⟩), .int .i64 0]) (by simp [results, Try.results4, go_sem]) rfl ?_
  refine ⟨w.heap.size + 1, fun k => k = w.heap.size + 1 ∨ k = w.heap.size, rfl, ⟨w.heap.size, .slice none 0 0, [], blk_new _ _ [_, _, _, _] _ (by simp), (mapAt_new w).of_same (Below.heap_alloc _ _ _ (by simp)), World.ownsRow_nil _ _ _ _, by omega, by simp [Value.ownBlock], by simp [Value.ownBlock], .inl rfl, .inr rfl, by simp [Value.ownBlock], ?_, by simp, h1, by omega⟩, ?_, ?_⟩
  · rintro k (rfl | rfl) <;> simp <;> omega
  · exact ((Below.refl w.heap.size w).alloc (Nat.le_refl _) _).alloc (by simp) _
  · rintro k (rfl | rfl) <;> omega
theorem neqMap (m : Option Nat) (w : World) : (binOp .neq 43 (.map m) (.map none)).run Try.prog w = .ok (.bool (!m.isNone)) w := run_neq_map_nil w _ _ _ m Try.underlying43
theorem there_ok (M b : Nat) (w : World) (hc : w.cell? ⟨M, 3, none⟩ = some (.map (some b))) :
    Calls Try.prog 12 #[.pointer (some ⟨M, 0, none⟩)] w fun e w' => e = .returned (.bool true) ∧ w' = w := by
  have hne := neqMap
  go_enter Try.func12, Try.ntmps12
  go_wp2
  go_ret
  exact ⟨rfl, rfl⟩
theorem there_nil (w : World) :
    Calls Try.prog 12 #[.pointer none] w fun e w' => e = .returned (.bool false) ∧ w' = w := by
  go_enter Try.func12, Try.ntmps12
  go_wp2
  go_ret
  exact ⟨rfl, rfl⟩
/-- A row's value is a slice of so many elements. -/
theorem row_slice {w : World} {base : Nat} {e : TypeId} {size : Nat} {v : Value} {n : Nat} {xs : List Value} (h : w.ownsRow base e size v n xs) : ∃ a c, v = .slice a n c := by
  rcases h.2 with ⟨rfl, rfl⟩ | ⟨g, cap, cur, rfl, -⟩
  · exact ⟨none, 0, rfl⟩
  · exact ⟨_, _, rfl⟩
theorem len_ok (M : Nat) (F : Nat → Prop) (B pars : Nat) (L : List Key) (w : World) (h : Mkr w M F B pars L) :
    Calls Try.prog 10 #[.pointer (some ⟨M, 0, none⟩)] w fun e w' => e = .returned (.int .i64 (L.length : Int)) ∧ w' = w := by
  obtain ⟨b, v, xs, h1, h2, h3, -⟩ := h
  obtain ⟨a, c, rfl⟩ := row_slice h3
  have c2 := h1.cell 2
  have c3 := h1.cell 3
  simp only [List.getElem?_cons_zero, List.getElem?_cons_succ] at c2 c3
  go_enter Try.func10, Try.ntmps10
  go_wp2_with fail
  refine (there_ok M b w c3).mono ?_
  rintro e w' ⟨rfl, rfl⟩
  go_wp2_with fail
  go_ret
  exact ⟨rfl, rfl⟩
end Go.Proofs.Ytljgiagdmnedpaa.Tape_
