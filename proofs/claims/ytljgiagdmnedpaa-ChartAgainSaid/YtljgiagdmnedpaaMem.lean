/-
Memory that a call makes for itself: a block known whole, kept over what else is made or written; copying into it.
-/
import Derived.Test.YtljgiagdmnedpaaBase
import Derived.Laws.CopyOwn
import Derived.Lib.ConvBytes
import Derived.Deep.OwnRows
import Derived.Deep.Draws
import Derived.Laws.BytesArg
namespace Go.Proofs.Ytljgiagdmnedpaa
open Go.RowKit

def bytesV (l : List UInt8) : List Value := l.map fun b => .int .u8 (b.toNat : Int)
theorem bytesV_length (l : List UInt8) : (bytesV l).length = l.length := by simp [bytesV]
theorem bytesV_append (a b : List UInt8) : bytesV (a ++ b) = bytesV a ++ bytesV b := by simp [bytesV]

/-- Block g holds just the cells cs, and none of them is frozen. -/
def Blk (w : World) (g : Nat) (t : TypeId) (cs : List Value) : Prop :=
  ∃ lo hi, w.heap[g]? = some (.cells cs.toArray t (lo, hi)) ∧ (lo = hi ∨ cs.length ≤ lo)

section
variable {w w' : World} {g : Nat} {t : TypeId} {cs : List Value}
theorem Blk.lt (h : Blk w g t cs) : g < w.heap.size := by
  obtain ⟨lo, hi, e, _⟩ := h
  exact (Array.getElem?_eq_some_iff.1 e).1
theorem Blk.cell (h : Blk w g t cs) (i : Nat) : w.cell? ⟨g, i, none⟩ = cs[i]? := by
  obtain ⟨lo, hi, e, _⟩ := h
  simp [World.cell?, e]
theorem Blk.frozen (h : Blk w g t cs) (i : Nat) (hi : i < cs.length) : w.frozen? ⟨g, i, none⟩ = false := by
  obtain ⟨lo, hi', e, h2⟩ := h
  simp only [World.frozen?, e]
  rcases h2 with rfl | h2
  · simp
  · simp
    intro h3
    omega
theorem Blk.new (w : World) (t : TypeId) (cs : List Value) : Blk (w.alloc (.cells cs.toArray t)) w.heap.size t cs :=
  ⟨0, 0, heap_alloc_new w _, .inl rfl⟩
theorem Blk.of_same (h : Blk w g t cs) (he : w'.heap[g]? = w.heap[g]?) : Blk w' g t cs := by
  obtain ⟨lo, hi, e, h2⟩ := h
  exact ⟨lo, hi, he.trans e, h2⟩
theorem Blk.drew (h : Blk w g t cs) : Blk w.drew g t cs := h
theorem Blk.drewN (h : Blk w g t cs) (n : Nat) : Blk (w.drewN n) g t cs := h
theorem Blk.alloc (h : Blk w g t cs) (o : Obj) : Blk (w.alloc o) g t cs := h.of_same (Below.heap_alloc w o g h.lt)
theorem Blk.far (h : Blk w g t cs) {p : Addr} (hp : g ≠ p.block) (u : Value) : Blk (w.setCell p u) g t cs := h.of_same (Below.heap_setCell w p u g hp)
theorem Blk.below {B : Nat} (h : Blk w g t cs) (hb : Below B w w') (hg : g < B) : Blk w' g t cs := h.of_same (hb.block g hg)
theorem Blk.grown {row : Option Nat} (h : Blk w g t cs) (hb : w.grownBy w' row) (hg : some g ≠ row) : Blk w' g t cs := h.of_same (hb.block g h.lt hg)
theorem Blk.set_ (h : Blk w g t cs) (i : Nat) (u : Value) : Blk (w.setCell ⟨g, i, none⟩ u) g t (cs.set i u) := by
  obtain ⟨lo, hi, e, h2⟩ := h
  refine ⟨lo, hi, ?_, by simpa using h2⟩
  have hlt := (Array.getElem?_eq_some_iff.1 e).1
  simp [World.setCell, Array.getElem?_modify, e]
theorem Blk.uniq {t' : TypeId} {cs' : List Value} (h : Blk w g t cs) (h' : Blk w g t' cs') : cs = cs' := by
  obtain ⟨lo, hi, e, _⟩ := h
  obtain ⟨lo', hi', e', _⟩ := h'
  rw [e] at e'
  injection e' with e'
  injection e' with e' _ _
  exact List.toArray_inj e'
end

theorem grown_refl (w : World) (r : Option Nat) : w.grownBy w r := ⟨rfl, rfl, rfl, Nat.le_refl _, fun _ _ _ => rfl⟩
theorem grown_set (w : World) (g i : Nat) (u : Value) : w.grownBy (w.setCell ⟨g, i, none⟩ u) (some g) :=
  ⟨rfl, rfl, rfl, by simp [World.setCell], fun k _ hne => Below.heap_setCell w _ u k (by rintro rfl; exact hne rfl)⟩
theorem grown_trans {a b c : World} {r : Option Nat} (h : a.grownBy b r) (k : b.grownBy c r) : a.grownBy c r :=
  ⟨k.os.trans h.os, k.tape.trans h.tape, k.output.trans h.output, Nat.le_trans h.size k.size,
    fun i hi hne => (k.block i (Nat.lt_of_lt_of_le hi h.size) hne).trans (h.block i hi hne)⟩
theorem below_grown {B : Nat} {a w w' : World} {g : Nat} (h : Below B a w) (hg : w.grownBy w' (some g)) (hB : B ≤ w.heap.size) (hgB : B ≤ g) : Below B a w' :=
  h.grown hg hB (fun k hk => by injection hk with hk; omega)

def spliceL (L : List Value) (off : Nat) (cs : List Value) : List Value := L.take off ++ (cs ++ L.drop (off + cs.length))
theorem spliceL_length (L : List Value) (off : Nat) (cs : List Value) (h : off + cs.length ≤ L.length) : (spliceL L off cs).length = L.length := by
  simp [spliceL]; omega

theorem list_set_step (l : List Value) (k : Nat) (v : Value) (rest : List Value) (hk : k + (rest.length + 1) ≤ l.length) :
    spliceL (l.set k v) (k + 1) rest = spliceL l k (v :: rest) := by
  have h := list_seg_step l k v rest hk
  simp only [List.append_assoc] at h
  simp only [spliceL, List.length_cons]
  simpa [Nat.add_assoc] using h

theorem run_storeCells_blk {P : Program} (g o : Nat) (t : TypeId) : ∀ (vs : List Value) (i : Nat) (cs : List Value) (w : World), Blk w g t cs → o + i + vs.length ≤ cs.length → (∀ v ∈ vs, v.oneCell' = true) →
    ∃ w', (storeCells ⟨g, o, none⟩ vs i).run P w = .ok () w' ∧ Blk w' g t (spliceL cs (o + i) vs) ∧ w.grownBy w' (some g)
  | [], i, cs, w, hg, _, _ => by
    refine ⟨w, rfl, ?_, grown_refl w _⟩
    have e : spliceL cs (o + i) [] = cs := by simp [spliceL]
    rw [e]
    exact hg
  | v :: rest, i, cs, w, hg, hl, h1 => by
    have hi : o + i < cs.length := by simp at hl; omega
    have hadd : (⟨g, o, none⟩ : Addr).add i = ⟨g, o + i, none⟩ := by unfold Addr.add; split <;> simp_all
    have hcell : w.cell? ⟨g, o + i, none⟩ = some cs[o + i] := by rw [hg.cell]; simp [hi]
    have hst : (store ((⟨g, o, none⟩ : Addr).add i) v).run P w = .ok () (w.setCell ⟨g, o + i, none⟩ v) := by
      rw [hadd, run_store P w _ v _ (h1 v (by simp)), hcell]
      simp [hg.frozen (o + i) hi]
    obtain ⟨w', hr, hb, hgr⟩ := run_storeCells_blk (P := P) g o t rest (i + 1) (cs.set (o + i) v) _ (hg.set_ (o + i) v) (by simp at hl ⊢; omega) (fun x hx => h1 x (by simp [hx]))
    refine ⟨w', ?_, ?_, grown_trans (grown_set w g (o + i) v) hgr⟩
    · simp only [storeCells, Sem.run_bind, hst, Result.andThen_ok, hr]
    · rw [← list_set_step cs (o + i) v rest (by simp at hl; omega)]
      exact hb

theorem oneCell_bytesV (l : List UInt8) : ∀ v ∈ bytesV l, v.oneCell' = true := by
  intro v hv
  simp only [bytesV, List.mem_map] at hv
  obtain ⟨b, _, rfl⟩ := hv
  rfl

/-- copy of a string into a row of the call's own. -/
theorem wpList_copy_str {P : Program} {w : World} {ops : Array Oper} {rest : List Oper} {o : Oper} {a : Act} {Q : Exit → Act → World → Prop} (hgd : o.guard = none) (d s : Operand) (dT sT : TypeId)
    (ho : o.op = .call { callee := .builtin .copy, args := #[d, s], argTypes := #[dT, sT] }) (elem : TypeId) (hu : P.underlying dT = some (.slice elem)) (hsz : (P.info? elem).map (·.size) = some 1)
    (g off dLen dCap : Nat) (S : ByteArray) (hd : a.eval d = .slice (some ⟨g, off, none⟩) dLen dCap) (hs : a.eval s = .string S)
    (t : TypeId) (cs : List Value) (hg : Blk w g t cs) (hn : S.size ≤ dLen) (hfit : off + S.size ≤ cs.length)
    (h : ∀ w', Blk w' g t (spliceL cs off (bytesV S.data.toList)) → w.grownBy w' (some g) → wpList P ops Q rest (a.put o.dst (.int .i64 (S.size : Int))) w') : wpList P ops Q (o :: rest) a w := by
  refine wpList_plain hgd fun K hK => ?_
  have hlen : (bytesV S.data.toList).length = S.size := by simp [bytesV]
  obtain ⟨w', hr, hb, hgr⟩ := run_storeCells_blk (P := P) g off t (bytesV S.data.toList) 0 cs w hg (by rw [hlen]; omega) (oneCell_bytesV _)
  have hmin : Nat.min S.size dLen = S.size := Nat.min_eq_left hn
  have hex : S.extract 0 S.size = S := by
    apply ByteArray.ext
    simp
  have hcells : (S.data.map fun b => Value.int .u8 (b.toNat : Int)).toList = bytesV S.data.toList := by simp [bytesV]
  have hrun : (Builtin.copy_ #[dT, sT] o.type #[.slice (some ⟨g, off, none⟩) dLen dCap, .string S]).run P w = .ok (goInt S.size) w' := by
    cases hq : P.info? elem with
    | none => simp [hq] at hsz
    | some i =>
      simp only [Builtin.copy_, List.getElem?_toArray, List.getElem?_cons_zero, List.getElem?_cons_succ, Sem.run_bind, run_underlying hu, Result.andThen_ok, Builtin.lenOf, Builtin.firstCells, sizeOf, typeInfo, Sem.run_pure, hmin, hex, hcells]
      simp [hq, hr]
  unfold Oper.wp
  simp [execOp, ho, resolve, invoke, builtin, hd, hs, hrun, Result.andThen]
  exact hK _ _ (h w' (by simpa using hb) hgr)

/-- string(b), b cells that are bytes. -/
theorem run_str_of_bytes {P : Program} {w : World} (src dst e : TypeId) (hs : P.underlying src = some (.slice e)) (he : P.underlying e = some (.int .u8)) (hd : P.underlying dst = some .string)
    (a : Addr) (len cap : Nat) (l : List UInt8) (hl : l.length = len) (hc : ∀ j v, (bytesV l)[j]? = some v → w.cell? (a.add j) = some v) :
    (convert src dst (.slice (some a) len cap)).run P w = .ok (.string ⟨l.toArray⟩) w := by
  have e1 : bytesV l = (l.map fun b => (b.toNat : Int)).map (Value.int .u8) := by simp [bytesV]
  have h := run_loadCells_list (P := P) w a (bytesV l) hc
  rw [bytesV_length, hl, e1] at h
  rw [run_convert_bytes_string w src dst e _ len cap hs he hd, run_bytesToString w a len cap _ h, foldl_push_bytes]
  congr 2
  apply ByteArray.ext
  apply Array.ext'
  simp only [ByteArray.data_empty, List.map_map, Array.empty_append, List.toList_toArray]
  conv => rhs; rw [← List.map_id l]
  refine List.map_congr_left fun b _ => ?_
  simp
theorem run_str_of_blk {P : Program} {w : World} (src dst e : TypeId) (hs : P.underlying src = some (.slice e)) (he : P.underlying e = some (.int .u8)) (hd : P.underlying dst = some .string)
    (g off len cap : Nat) (l : List UInt8) (hl : l.length = len) (t : TypeId) (cs : List Value) (hg : Blk w g t cs) (hc : (cs.drop off).take len = bytesV l) :
    (convert src dst (.slice (some ⟨g, off, none⟩) len cap)).run P w = .ok (.string ⟨l.toArray⟩) w := by
  refine run_str_of_bytes src dst e hs he hd _ len cap l hl fun j v hj => ?_
  have hadd : (⟨g, off, none⟩ : Addr).add j = ⟨g, off + j, none⟩ := by unfold Addr.add; split <;> simp_all
  rw [hadd, hg.cell]
  rw [← hc, List.getElem?_take] at hj
  split at hj
  · simpa using hj
  · cases hj

/-- []byte(s): a new row that holds the bytes, with some room behind. -/
theorem str_bytes {P : Program} (w : World) (src dst e : TypeId) (s : ByteArray) {u : TypeDesc}
    (hs : P.underlying src = some u) (hd : P.underlying dst = some (.slice e)) (he : P.underlying e = some (.int .u8)) (hm : s.size ≤ maxLen) :
    ∃ cap W1, (convert src dst (.string s)).run P w = .ok (.slice (some ⟨w.heap.size, 0, none⟩) s.size cap) W1 ∧ s.size ≤ cap ∧ cap ≤ maxLen ∧ W1.heap.size = w.heap.size + 1 ∧
      Blk W1 w.heap.size e (bytesV s.data.toList ++ List.replicate (cap - s.size) (.int .u8 0)) ∧ Below w.heap.size w W1 := by
  refine ⟨_, _, Lib.run_convert_string_bytes w src dst e s hs hd he, grownCap_ge _ _ _ _, grownCap_le_maxLen _ _ _ _ hm, Lib.bytesWorld_size w e s, ⟨(Lib.bytesCells w e s).size, (Lib.bytesCells w e s).size + 1, ?_, .inr ?_⟩, ?_⟩
  · rw [Lib.bytesWorld_at_new]
    congr 2
    apply Array.ext'
    simp [Lib.bytesCells, bytesV]
  · simp [Lib.bytesCells, bytesV]
  · exact ⟨by simp [Lib.bytesWorld, World.freeze]; rfl, by simp [Lib.bytesWorld, World.freeze], by simp [Lib.bytesWorld, World.freeze]; rfl, by rw [Lib.bytesWorld_size]; omega, fun k hk => Lib.bytesWorld_at_old w e s k hk⟩
end Go.Proofs.Ytljgiagdmnedpaa
