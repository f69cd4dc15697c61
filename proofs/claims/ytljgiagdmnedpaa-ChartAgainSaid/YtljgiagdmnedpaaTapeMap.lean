/-
The map of steps: a key as the program holds it; the look-up; a new entry.
-/
import Derived.Test.YtljgiagdmnedpaaProg
import Derived.Test.YtljgiagdmnedpaaMem
import Derived.Test.YtljgiagdmnedpaaChartLaw
import Derived.Maps.Keyed
import Derived.DeepKeys4
import Derived.WideKeyEntry
namespace Go.Proofs.Ytljgiagdmnedpaa.Tape_
open Go.RowKit Go.MapKept Go.WideMaps Go.ChangeMaps Go.WideElems

/-- A key as the program holds it. -/
def kv (k : Key) : Value := .agg #[.int .u8 (k.op : Int), .int .i64 (k.a : Int), .int .i64 (k.b : Int), .string ⟨k.c.toArray⟩]
def Fits (k : Key) : Prop := k.op < 256 ∧ k.a < 9223372036854775808 ∧ k.b < 9223372036854775808 ∧ k.c.length ≤ maxLen
theorem kv_inj {k k' : Key} (h : kv k = kv k') : k = k' := by
  cases k
  cases k'
  simp only [kv, Value.agg.injEq] at h
  have h1 := congrArg Array.toList h
  simp at h1
  obtain ⟨h1, h2, h3, h4⟩ := h1
  simp only [Key.mk.injEq]
  exact ⟨by omega, by omega, by omega, h4⟩
theorem laidOut : laidOutB Try.prog = true := by kernel_rfl
theorem wide : (match Try.prog.underlying 65 with | some (.array _ _) | some (.struct _) => true | _ => false) = true := by rw [Try.underlying65]
set_option maxRecDepth 100000 in
theorem rowK : (65 : TypeId) < Try.prog.types.size := of_decide_eq_true (by kernel_rfl)
set_option maxRecDepth 100000 in
theorem law : KeyLaw Try.prog 65 := deep_law_laid laidOut (m := 2) (by omega) rowK (by kernel_rfl) wide
theorem cellsK : Try.prog.cellsOf 65 = 4 := by kernel_rfl
theorem cellsU8 : Try.prog.cellsOf 5 = 1 := by kernel_rfl
theorem cellsInt : Try.prog.cellsOf 3 = 1 := by kernel_rfl
theorem cellsStr : Try.prog.cellsOf 9 = 1 := by kernel_rfl
theorem formedK (k : Key) : (kv k).formed Try.prog 65 = true := by simp [kv, Value.formed, Try.underlying65, cellsK]
theorem key_of (k : Key) (h : Fits k) : ∃ kl, keyOf Try.prog 65 (kv k) = some kl := by
  have hk : Try.prog.keyType 65 = true := by kernel_rfl
  obtain ⟨m, hm⟩ : ∃ m, Try.prog.types.size = m + 1 := Nat.exists_eq_succ_of_ne_zero (fun h0 => by have h1 := rowK; rw [h0] at h1; exact absurd h1 (Nat.not_lt_zero _))
  have w1 : (Lit.int .u8 (k.op : Int)).wf = true := by
    have := h.1
    simp [Lit.wf, go_sem, IntKind.min, IntKind.max, IntKind.signed]
    omega
  have w2 : (Lit.int .i64 (k.a : Int)).wf = true := by
    have := h.2.1
    simp [Lit.wf, go_sem, IntKind.min, IntKind.max, IntKind.signed]
    omega
  have w3 : (Lit.int .i64 (k.b : Int)).wf = true := by
    have := h.2.2.1
    simp [Lit.wf, go_sem, IntKind.min, IntKind.max, IntKind.signed]
    omega
  have w4 : (⟨k.c.toArray⟩ : ByteArray).size ≤ maxLen := h.2.2.2
  unfold keyOf
  rw [Try.underlying65]
  simp only [hk, formedK, Bool.and_self, if_true]
  rw [hm]
  simp [Program.keyLits, Try.underlying65, Try.underlying5, Try.underlying3, Try.underlying9, cellsK, cellsU8, cellsInt, cellsStr, kv, Value.cells, w1, w2, w3, w4]
/-- The entries of the map that the keys L have made. -/
def rowsOf (L : List Key) : List (Value × Value) := (List.range L.length).map fun i : Nat => (((L[i]?).map kv).getD undef, Value.int .i64 (i : Int))
/-- Block b is the map that the keys L, in their order, have made. -/
def MapAt (w : World) (b : Nat) (L : List Key) : Prop :=
  L.Nodup ∧ (∀ k ∈ L, Fits k) ∧ ∃ es clock, w.heap[b]? = some (.map es clock) ∧ es.toList.map (fun e => (e.key, e.val)) = rowsOf L ∧ ∀ e ∈ es.toList, e.born < clock
section
variable {w : World} {b : Nat} {L : List Key} {k : Key}
theorem mapAt_new (w : World) : MapAt (w.alloc (.map #[] 0)) w.heap.size [] := ⟨by simp, by simp, #[], 0, (heap_alloc w _).1, rfl, by simp⟩
theorem MapAt.lt (h : MapAt w b L) : b < w.heap.size := by
  obtain ⟨-, -, es, clock, hb, -⟩ := h
  exact (Array.getElem?_eq_some_iff.1 hb).1
theorem MapAt.of_same {w' : World} (h : MapAt w b L) (he : w'.heap[b]? = w.heap[b]?) : MapAt w' b L := by
  obtain ⟨h1, h2, es, clock, hb, h3⟩ := h
  exact ⟨h1, h2, es, clock, he.trans hb, h3⟩
/-- What an entry is. -/
theorem entries {es : Array MapEntry} (h : es.toList.map (fun e => (e.key, e.val)) = rowsOf L) (j : Nat) (e : MapEntry) (he : es.toList[j]? = some e) :
    ∃ k, L[j]? = some k ∧ e.key = kv k ∧ e.val = .int .i64 (j : Int) := by
  have h1 := congrArg (fun l => l[j]?) h
  unfold rowsOf at h1
  simp only [List.getElem?_map, he, Option.map_some] at h1
  by_cases hj : j < L.length
  · rw [List.getElem?_range hj] at h1
    simp only [Option.map_some, List.getElem?_eq_getElem hj] at h1
    simp at h1
    exact ⟨L[j], List.getElem?_eq_getElem hj, h1.1, h1.2⟩
  · rw [List.getElem?_eq_none (by simp; omega)] at h1
    simp at h1
theorem entries_len {es : Array MapEntry} (h : es.toList.map (fun e => (e.key, e.val)) = rowsOf L) : es.toList.length = L.length := by
  have h1 := congrArg List.length h
  unfold rowsOf at h1
  simpa using h1
theorem entries_keys (hL : ∀ k ∈ L, Fits k) {es : Array MapEntry} (h : es.toList.map (fun e => (e.key, e.val)) = rowsOf L) :
    ∀ e ∈ es.toList, ∃ l, keyOf Try.prog 65 e.key = some l := by
  intro e he
  obtain ⟨j, hj⟩ := List.mem_iff_getElem?.1 he
  obtain ⟨k, hk, h1, -⟩ := entries h j e hj
  rw [h1]
  exact key_of k (hL k (List.mem_of_getElem? hk))
theorem lookup_hit (h : MapAt w b L) (hk : k ∈ L) :
    (Instr.lookup 43 (.map (some b)) (kv k) true).run Try.prog w = .ok (.tuple #[.int .i64 ((L.idxOf k : Nat) : Int), .bool true]) w := by
  obtain ⟨hn, hL, es, clock, hb, he, -⟩ := h
  obtain ⟨kl, hkl⟩ := key_of k (hL k hk)
  have hck := law.check w (es.isEmpty) hkl
  rcases law.find w hkl es.toList (entries_keys hL he) with ⟨-, h2⟩ | ⟨j, e, h1, h2, h3⟩
  · obtain ⟨j, hj⟩ := List.mem_iff_getElem?.1 hk
    have hjl : j < es.toList.length := by rw [entries_len he]; exact (List.getElem?_eq_some_iff.1 hj).1
    obtain ⟨k', hk', h4, -⟩ := entries he j _ (List.getElem?_eq_getElem hjl)
    rw [hj] at hk'
    have hk' := Option.some.inj hk'
    exact absurd (h4.trans (by rw [← hk'])) (h2 _ (List.getElem_mem hjl))
  · obtain ⟨k', hk', h4, h5⟩ := entries he j e h2
    have hkk : k' = k := kv_inj (h4.symm.trans h3)
    subst hkk
    obtain ⟨hjl, hjk⟩ := List.getElem?_eq_some_iff.1 hk'
    have hidx : L.idxOf k' = j := by
      rw [← hjk]
      exact hn.idxOf_getElem j hjl
    rw [hidx]
    simp [Instr.lookup, run_underlying Try.underlying43, MapKept.run_getObj_map hb, hck, h1, Result.andThen, h5]
theorem lookup_miss (h : MapAt w b L) (hf : Fits k) (hk : ¬ k ∈ L) :
    (Instr.lookup 43 (.map (some b)) (kv k) true).run Try.prog w = .ok (.tuple #[.int .i64 0, .bool false]) w := by
  obtain ⟨hn, hL, es, clock, hb, he, -⟩ := h
  obtain ⟨kl, hkl⟩ := key_of k hf
  have hck := law.check w (es.isEmpty) hkl
  rcases law.find w hkl es.toList (entries_keys hL he) with ⟨h1, -⟩ | ⟨j, e, h1, h2, h3⟩
  · simp [Instr.lookup, run_underlying Try.underlying43, MapKept.run_getObj_map hb, hck, h1, Result.andThen]
  · obtain ⟨k', hk', h4, h5⟩ := entries he j e h2
    have hkk : k' = k := kv_inj (h4.symm.trans h3)
    subst hkk
    exact absurd (List.mem_of_getElem? hk') hk
theorem findIdx_new (es : Array MapEntry) (clock : Nat) (key val : Value) (h : ∀ e ∈ es.toList, e.born < clock) :
    (es.push ⟨key, val, clock⟩).findIdx? (fun e => ((e.born : Nat) : Int) == ((clock : Nat) : Int)) = some es.size := by
  rw [findIdx_arr, Array.toList_push, List.findIdx?_append]
  have h0 : es.toList.findIdx? (fun e => ((e.born : Nat) : Int) == ((clock : Nat) : Int)) = none := by
    rw [List.findIdx?_eq_none_iff]
    intro e he
    have := h e he
    simp
    omega
  rw [h0]
  simp [List.findIdx?_cons]
/-- m[k] = its place, k a new key: the entry is made, then stored into. -/
theorem entry_new (h : MapAt w b L) (hf : Fits k) (hk : ¬ k ∈ L) :
    ∃ st w3 w4, (Instr.mapEntry 43 (.map (some b)) (kv k)).run Try.prog w = .ok (.tuple #[.int .i64 0, st]) w3 ∧
      (Instr.entryStore 43 (.map (some b)) st (.int .i64 ((L.length : Nat) : Int))).run Try.prog w3 = .ok () w4 ∧ MapAt w4 b (L ++ [k]) ∧ w.grownBy w4 (some b) := by
  obtain ⟨hn, hL, es, clock, hb, he, hs⟩ := h
  obtain ⟨kl, hkl⟩ := key_of k hf
  have hck := law.check w false hkl
  rcases law.find w hkl es.toList (entries_keys hL he) with ⟨h1, -⟩ | ⟨j, e, h1, h2, h3⟩
  · have hw3 := heap_setBlock_same hb (.map (es.push ⟨kv k, .int .i64 0, clock⟩) (clock + 1))
    have hmod : ∀ val : Value, (es.push ⟨kv k, .int .i64 0, clock⟩).modify es.size (fun e => { e with val := val }) = es.push ⟨kv k, val, clock⟩ := by
      intro val
      apply Array.ext'
      rw [Array.toList_modify, Array.toList_push, Array.toList_push, ← Array.length_toList, modify_last]
    refine ⟨goInt clock, setBlock w b (.map (es.push ⟨kv k, .int .i64 0, clock⟩) (clock + 1)), setBlock (setBlock w b (.map (es.push ⟨kv k, .int .i64 0, clock⟩) (clock + 1))) b (.map (es.push ⟨kv k, .int .i64 ((L.length : Nat) : Int), clock⟩) (clock + 1)), ?_, ?_, ⟨?_, ?_, es.push ⟨kv k, .int .i64 ((L.length : Nat) : Int), clock⟩, clock + 1, heap_setBlock_same hw3 _, ?_, ?_⟩, ?_⟩
    · simp [Instr.mapEntry, run_underlying Try.underlying43, MapKept.run_getObj_map hb, hck, h1, MapKept.run_setObj_map _ hb, Result.andThen]
      rfl
    · simp [Instr.entryStore, MapKept.run_getObj_map hw3, asInt, asIntOf, goInt, findIdx_new es clock _ _ hs, hmod, MapKept.run_setObj_map _ hw3, Result.andThen]
      rfl
    · rw [List.nodup_append]
      refine ⟨hn, by simp, ?_⟩
      intro a ha c hc
      simp at hc
      rw [hc]
      intro e
      exact hk (e ▸ ha)
    · intro x hx
      rcases List.mem_append.1 hx with hx | hx
      · exact hL x hx
      · simp at hx
        rw [hx]
        exact hf
    · unfold rowsOf at he ⊢
      rw [Array.toList_push, List.map_append, he, List.length_append, List.length_singleton, List.range_succ, List.map_append]
      have e1 : (List.range L.length).map (fun i : Nat => ((((L ++ [k])[i]?).map kv).getD undef, Value.int .i64 (i : Int))) = (List.range L.length).map (fun i : Nat => (((L[i]?).map kv).getD undef, Value.int .i64 (i : Int))) := by
        refine List.map_congr_left fun i hi => ?_
        rw [List.getElem?_append_left (by simpa using hi)]
      rw [e1]
      simp
    · intro e he'
      rw [Array.toList_push] at he'
      rcases List.mem_append.1 he' with h' | h'
      · have := hs e h'
        omega
      · simp at h'
        rw [h']
        simp
    · refine ⟨rfl, rfl, rfl, by simp [setBlock], fun i _ hi => ?_⟩
      rw [heap_setBlock_other hw3 _ (fun e => hi (by rw [e])), heap_setBlock_other hb _ (fun e => hi (by rw [e]))]
  · obtain ⟨k', hk', h4, h5⟩ := entries he j e h2
    have hkk : k' = k := kv_inj (h4.symm.trans h3)
    subst hkk
    exact absurd (List.mem_of_getElem? hk') hk
/-- mapEntry turns the map's block alone. -/
theorem entry_old {v : Value} {w3 : World} (h : MapAt w b L) (hr : (Instr.mapEntry 43 (.map (some b)) (kv k)).run Try.prog w = .ok v w3) (hf : Fits k) (hk : ¬ k ∈ L) : ∀ i, i ≠ b → w3.heap[i]? = w.heap[i]? := by
  obtain ⟨hn, hL, es, clock, hb, he, hs⟩ := h
  obtain ⟨kl, hkl⟩ := key_of k hf
  have hck := law.check w false hkl
  rcases law.find w hkl es.toList (entries_keys hL he) with ⟨h1, -⟩ | ⟨j, e, h1, h2, h3⟩
  · have h2 : (Instr.mapEntry 43 (.map (some b)) (kv k)).run Try.prog w = .ok (.tuple #[.int .i64 0, goInt clock]) (setBlock w b (.map (es.push ⟨kv k, .int .i64 0, clock⟩) (clock + 1))) := by
      simp [Instr.mapEntry, run_underlying Try.underlying43, MapKept.run_getObj_map hb, hck, h1, MapKept.run_setObj_map _ hb, Result.andThen]
      rfl
    rw [h2] at hr
    injection hr with _ hr
    intro i hi
    rw [← hr, heap_setBlock_other hb _ (fun e => hi (by rw [e]))]
  · obtain ⟨k', hk', h4, h5⟩ := entries he j e h2
    have hkk : k' = k := kv_inj (h4.symm.trans h3)
    subst hkk
    exact absurd (List.mem_of_getElem? hk') hk
end
end Go.Proofs.Ytljgiagdmnedpaa.Tape_
