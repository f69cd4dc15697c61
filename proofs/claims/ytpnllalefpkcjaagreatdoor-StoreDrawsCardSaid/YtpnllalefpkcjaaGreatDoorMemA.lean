/-
Small lemmas used by the walks of this seat: returned values, masks of 64 bits, products of two words.
Memory that a call makes for itself: a block known whole, kept over what else is made or written; copying into it.
Slices of the call's own: one more element, and the text of a row of bytes.
What a walk is told of a slice that came in: of integers, of bools, of texts.
What a walk is told of a struct that came in by value, and of a slice of structs.
-/
import Derived.WalkKit
import Derived.Handy
import Derived.Laws.BitsAllLaws
import Derived.Lib.Mul64
import Derived.Lib.Hide
import Derived.Laws.CopyOwn
import Derived.Lib.ConvBytes
import Derived.Deep.OwnRows
import Derived.Deep.Draws
import Derived.Laws.BytesArg
import Derived.ProofKit
import Derived.OpenShut
import Derived.ShutString
import Derived.ChangeOld
import Derived.Below
import Derived.SliceStrings
import Derived.Deep.Grids
import Derived.Deep.Fields
import Derived.Deep.Slices
import Derived.Lib.SmallJoins
namespace Go.Proofs.YtpnllalefpkcjaaGreatDoor
open Go.RowKit

theorem ret_int {k : IntKind} {a b : Int} (h : a = b) : Ending.returned (.int k a) = .returned (.int k b) := by rw [h]
theorem ret_int2 {k l : IntKind} {a b c d : Int} (h : a = b) (g : c = d) : Ending.returned (.tuple #[.int k a, .int l c]) = .returned (.tuple #[.int k b, .int l d]) := by rw [h, g]
theorem ret_str {a b : ByteArray} (h : a = b) : Ending.returned (.string a) = .returned (.string b) := by rw [h]
theorem ret_bool {a b : Bool} (h : a = b) : Ending.returned (.bool a) = .returned (.bool b) := by rw [h]

/-- Old cells and marks read as before behind a call that only makes memory. -/
theorem bcell {W w1 : World} (hb : Below W.heap.size W w1) : (∀ b o, b < W.heap.size → w1.cell? ⟨b, o, none⟩ = W.cell? ⟨b, o, none⟩) ∧ (∀ b o, b < W.heap.size → w1.frozen? ⟨b, o, none⟩ = W.frozen? ⟨b, o, none⟩) :=
  ⟨fun b o h => hb.cell (p := ⟨b, o, none⟩) h, fun b o h => hb.frozen (p := ⟨b, o, none⟩) h⟩

theorem mask_u64 (k : Nat) (n m : Int) (hm : m = ((2 ^ k - 1 : Nat) : Int)) (hk : k ≤ 64) (h0 : 0 ≤ n) (h1 : n < 18446744073709551616) : bits .and .u64 n m = n % ((2 ^ k : Nat) : Int) := by
  have hp : 0 < 2 ^ k := Nat.pow_pos (by decide)
  have hle : 2 ^ k ≤ 18446744073709551616 := Nat.pow_le_pow_right (n := 2) (by decide) hk
  rw [u64_and n _ h0 h1 (by omega) (by omega)]
  have e : m.toNat = 2 ^ k - 1 := by rw [hm]; rfl
  rw [e, Nat.and_two_pow_sub_one_eq_mod, Int.natCast_emod]
  generalize 2 ^ k = p at *
  rw [Int.toNat_of_nonneg h0]
theorem and32 (n : Int) (h0 : 0 ≤ n) (h1 : n < 18446744073709551616) : bits .and .u64 n 4294967295 = n % 4294967296 := mask_u64 32 n _ (by decide) (by decide) h0 h1
theorem and61 (n : Int) (h0 : 0 ≤ n) (h1 : n < 18446744073709551616) : bits .and .u64 n 2305843009213693951 = n % 2305843009213693952 := mask_u64 61 n _ (by decide) (by decide) h0 h1
/-- A byte laid behind a number. -/
theorem or8 (n c : Int) (h0 : 0 ≤ n) (h1 : n < 72057594037927936) (g0 : 0 ≤ c) (g1 : c < 256) : bits .or .u64 (n * 256) c = n * 256 + c := by
  rw [u64_or _ c (by omega) (by omega) g0 (by omega), nat_join 8 _ _ (by omega) (by omega)]
  omega

theorem half_bd {a b : Int} (ha : 0 ≤ a) (hb : 0 ≤ b) (ka : a < 4294967296) (kb : b < 4294967296) : 0 ≤ a * b ∧ a * b ≤ 18446744065119617025 := by
  refine ⟨Int.mul_nonneg ha hb, ?_⟩
  have := Int.mul_le_mul (show a ≤ 4294967295 by omega) (show b ≤ 4294967295 by omega) hb (by omega)
  simpa using this
theorem mul_end (a b : Int) (h0 : 0 ≤ a) (h1 : a < 18446744073709551616) (g0 : 0 ≤ b) (g1 : b < 18446744073709551616) :
    (a / 4294967296) * (b / 4294967296) + ((a / 4294967296) * (b % 4294967296) + (a % 4294967296) * (b % 4294967296) / 4294967296) / 4294967296 +
      (((a / 4294967296) * (b % 4294967296) + (a % 4294967296) * (b % 4294967296) / 4294967296) % 4294967296 + (a % 4294967296) * (b / 4294967296)) / 4294967296 = a * b / 18446744073709551616 := by
  obtain ⟨x, rfl⟩ := Int.eq_ofNat_of_zero_le h0
  obtain ⟨y, rfl⟩ := Int.eq_ofNat_of_zero_le g0
  have := (Lib.mul64_hi x y (by omega) (by omega)).2.2.2
  have h := congrArg (fun n : Nat => (n : Int)) this
  simp only [Int.natCast_add, Int.natCast_mul, Int.natCast_ediv, Int.natCast_emod, Int.cast_ofNat_Int] at h
  exact h
theorem hi_bd (a b : Int) (h0 : 0 ≤ a) (h1 : a < 18446744073709551616) (g0 : 0 ≤ b) (g1 : b < 18446744073709551616) : 0 ≤ a * b / 18446744073709551616 ∧ a * b / 18446744073709551616 < 18446744073709551616 := by
  have h := Int.mul_nonneg h0 g0
  have := Int.mul_le_mul (show a ≤ 18446744073709551615 by omega) (show b ≤ 18446744073709551615 by omega) g0 (by omega)
  simp only [Int.reduceMul] at this
  generalize a * b = c at *
  omega
end Go.Proofs.YtpnllalefpkcjaaGreatDoor

namespace Go.Proofs.YtpnllalefpkcjaaGreatDoor
open Go.RowKit

def bytesV (l : List UInt8) : List Value := l.map fun b => .int .u8 (b.toNat : Int)
theorem bytesV_length (l : List UInt8) : (bytesV l).length = l.length := by simp [bytesV]
theorem bytesV_append (a b : List UInt8) : bytesV (a ++ b) = bytesV a ++ bytesV b := by simp [bytesV]

/-- Block g holds just the cells cs, and none of them is frozen. -/
def Blk (w : World) (g : Nat) (t : TypeId) (cs : List Value) : Prop :=
  ∃ lo hi, w.heap[g]? = some (.cells cs.toArray t (lo, hi)) ∧ (lo = hi ∨ cs.length ≤ lo)

section
variable {w w' : World} {g : Nat} {t : TypeId} {cs : List Value}
theorem Blk.lt (h : Blk w g t cs) : g < w.heap.size := by
  obtain ⟨lo, hi, e, _⟩ := h
  exact (Array.getElem?_eq_some_iff.1 e).1
theorem Blk.cell (h : Blk w g t cs) (i : Nat) : w.cell? ⟨g, i, none⟩ = cs[i]? := by
  obtain ⟨lo, hi, e, _⟩ := h
  simp [World.cell?, e]
theorem Blk.frozen (h : Blk w g t cs) (i : Nat) (hi : i < cs.length) : w.frozen? ⟨g, i, none⟩ = false := by
  obtain ⟨lo, hi', e, h2⟩ := h
  simp only [World.frozen?, e]
  rcases h2 with rfl | h2
  · simp
  · simp
    intro h3
    omega
theorem Blk.new (w : World) (t : TypeId) (cs : List Value) : Blk (w.alloc (.cells cs.toArray t)) w.heap.size t cs :=
  ⟨0, 0, heap_alloc_new w _, .inl rfl⟩
theorem Blk.of_same (h : Blk w g t cs) (he : w'.heap[g]? = w.heap[g]?) : Blk w' g t cs := by
  obtain ⟨lo, hi, e, h2⟩ := h
  exact ⟨lo, hi, he.trans e, h2⟩
theorem Blk.drew (h : Blk w g t cs) : Blk w.drew g t cs := h
theorem Blk.drewN (h : Blk w g t cs) (n : Nat) : Blk (w.drewN n) g t cs := h
theorem Blk.alloc (h : Blk w g t cs) (o : Obj) : Blk (w.alloc o) g t cs := h.of_same (Below.heap_alloc w o g h.lt)
theorem Blk.far (h : Blk w g t cs) {p : Addr} (hp : g ≠ p.block) (u : Value) : Blk (w.setCell p u) g t cs := h.of_same (Below.heap_setCell w p u g hp)
theorem Blk.below {B : Nat} (h : Blk w g t cs) (hb : Below B w w') (hg : g < B) : Blk w' g t cs := h.of_same (hb.block g hg)
theorem Blk.grown {row : Option Nat} (h : Blk w g t cs) (hb : w.grownBy w' row) (hg : some g ≠ row) : Blk w' g t cs := h.of_same (hb.block g h.lt hg)
theorem Blk.set_ (h : Blk w g t cs) (i : Nat) (u : Value) : Blk (w.setCell ⟨g, i, none⟩ u) g t (cs.set i u) := by
  obtain ⟨lo, hi, e, h2⟩ := h
  refine ⟨lo, hi, ?_, by simpa using h2⟩
  have hlt := (Array.getElem?_eq_some_iff.1 e).1
  simp [World.setCell, Array.getElem?_modify, e]
theorem Blk.uniq {t' : TypeId} {cs' : List Value} (h : Blk w g t cs) (h' : Blk w g t' cs') : cs = cs' := by
  obtain ⟨lo, hi, e, _⟩ := h
  obtain ⟨lo', hi', e', _⟩ := h'
  rw [e] at e'
  injection e' with e'
  injection e' with e' _ _
  exact List.toArray_inj e'
end

theorem grown_refl (w : World) (r : Option Nat) : w.grownBy w r := ⟨rfl, rfl, rfl, Nat.le_refl _, fun _ _ _ => rfl⟩
theorem grown_set (w : World) (g i : Nat) (u : Value) : w.grownBy (w.setCell ⟨g, i, none⟩ u) (some g) :=
  ⟨rfl, rfl, rfl, by simp [World.setCell], fun k _ hne => Below.heap_setCell w _ u k (by rintro rfl; exact hne rfl)⟩
theorem grown_trans {a b c : World} {r : Option Nat} (h : a.grownBy b r) (k : b.grownBy c r) : a.grownBy c r :=
  ⟨k.os.trans h.os, k.tape.trans h.tape, k.output.trans h.output, Nat.le_trans h.size k.size,
    fun i hi hne => (k.block i (Nat.lt_of_lt_of_le hi h.size) hne).trans (h.block i hi hne)⟩
theorem below_grown {B : Nat} {a w w' : World} {g : Nat} (h : Below B a w) (hg : w.grownBy w' (some g)) (hB : B ≤ w.heap.size) (hgB : B ≤ g) : Below B a w' :=
  h.grown hg hB (fun k hk => by injection hk with hk; omega)

def spliceL (L : List Value) (off : Nat) (cs : List Value) : List Value := L.take off ++ (cs ++ L.drop (off + cs.length))
theorem spliceL_length (L : List Value) (off : Nat) (cs : List Value) (h : off + cs.length ≤ L.length) : (spliceL L off cs).length = L.length := by
  simp [spliceL]; omega

theorem list_set_step (l : List Value) (k : Nat) (v : Value) (rest : List Value) (hk : k + (rest.length + 1) ≤ l.length) :
    spliceL (l.set k v) (k + 1) rest = spliceL l k (v :: rest) := by
  have h := list_seg_step l k v rest hk
  simp only [List.append_assoc] at h
  simp only [spliceL, List.length_cons]
  simpa [Nat.add_assoc] using h

theorem run_storeCells_blk {P : Program} (g o : Nat) (t : TypeId) : ∀ (vs : List Value) (i : Nat) (cs : List Value) (w : World), Blk w g t cs → o + i + vs.length ≤ cs.length → (∀ v ∈ vs, v.oneCell' = true) →
    ∃ w', (storeCells ⟨g, o, none⟩ vs i).run P w = .ok () w' ∧ Blk w' g t (spliceL cs (o + i) vs) ∧ w.grownBy w' (some g)
  | [], i, cs, w, hg, _, _ => by
    refine ⟨w, rfl, ?_, grown_refl w _⟩
    have e : spliceL cs (o + i) [] = cs := by simp [spliceL]
    rw [e]
    exact hg
  | v :: rest, i, cs, w, hg, hl, h1 => by
    have hi : o + i < cs.length := by simp at hl; omega
    have hadd : (⟨g, o, none⟩ : Addr).add i = ⟨g, o + i, none⟩ := by unfold Addr.add; split <;> simp_all
    have hcell : w.cell? ⟨g, o + i, none⟩ = some cs[o + i] := by rw [hg.cell]; simp [hi]
    have hst : (store ((⟨g, o, none⟩ : Addr).add i) v).run P w = .ok () (w.setCell ⟨g, o + i, none⟩ v) := by
      rw [hadd, run_store P w _ v _ (h1 v (by simp)), hcell]
      simp [hg.frozen (o + i) hi]
    obtain ⟨w', hr, hb, hgr⟩ := run_storeCells_blk (P := P) g o t rest (i + 1) (cs.set (o + i) v) _ (hg.set_ (o + i) v) (by simp at hl ⊢; omega) (fun x hx => h1 x (by simp [hx]))
    refine ⟨w', ?_, ?_, grown_trans (grown_set w g (o + i) v) hgr⟩
    · simp only [storeCells, Sem.run_bind, hst, Result.andThen_ok, hr]
    · rw [← list_set_step cs (o + i) v rest (by simp at hl; omega)]
      exact hb

theorem oneCell_bytesV (l : List UInt8) : ∀ v ∈ bytesV l, v.oneCell' = true := by
  intro v hv
  simp only [bytesV, List.mem_map] at hv
  obtain ⟨b, _, rfl⟩ := hv
  rfl

/-- copy of a string into a row of the call's own. -/
theorem wpList_copy_str {P : Program} {w : World} {ops : Array Oper} {rest : List Oper} {o : Oper} {a : Act} {Q : Exit → Act → World → Prop} (hgd : o.guard = none) (d s : Operand) (dT sT : TypeId)
    (ho : o.op = .call { callee := .builtin .copy, args := #[d, s], argTypes := #[dT, sT] }) (elem : TypeId) (hu : P.underlying dT = some (.slice elem)) (hsz : (P.info? elem).map (·.size) = some 1)
    (g off dLen dCap : Nat) (S : ByteArray) (hd : a.eval d = .slice (some ⟨g, off, none⟩) dLen dCap) (hs : a.eval s = .string S)
    (t : TypeId) (cs : List Value) (hg : Blk w g t cs) (hn : S.size ≤ dLen) (hfit : off + S.size ≤ cs.length)
    (h : ∀ w', Blk w' g t (spliceL cs off (bytesV S.data.toList)) → w.grownBy w' (some g) → wpList P ops Q rest (a.put o.dst (.int .i64 (S.size : Int))) w') : wpList P ops Q (o :: rest) a w := by
  refine wpList_plain hgd fun K hK => ?_
  have hlen : (bytesV S.data.toList).length = S.size := by simp [bytesV]
  obtain ⟨w', hr, hb, hgr⟩ := run_storeCells_blk (P := P) g off t (bytesV S.data.toList) 0 cs w hg (by rw [hlen]; omega) (oneCell_bytesV _)
  have hmin : Nat.min S.size dLen = S.size := Nat.min_eq_left hn
  have hex : S.extract 0 S.size = S := by
    apply ByteArray.ext
    simp
  have hcells : (S.data.map fun b => Value.int .u8 (b.toNat : Int)).toList = bytesV S.data.toList := by simp [bytesV]
  have hrun : (Builtin.copy_ #[dT, sT] o.type #[.slice (some ⟨g, off, none⟩) dLen dCap, .string S]).run P w = .ok (goInt S.size) w' := by
    cases hq : P.info? elem with
    | none => simp [hq] at hsz
    | some i =>
      simp only [Builtin.copy_, List.getElem?_toArray, List.getElem?_cons_zero, List.getElem?_cons_succ, Sem.run_bind, run_underlying hu, Result.andThen_ok, Builtin.lenOf, Builtin.firstCells, sizeOf, typeInfo, Sem.run_pure, hmin, hex, hcells]
      simp [hq, hr]
  unfold Oper.wp
  simp [execOp, ho, resolve, invoke, builtin, hd, hs, hrun, Result.andThen]
  exact hK _ _ (h w' (by simpa using hb) hgr)

/-- string(b), b cells that are bytes. -/
theorem run_str_of_bytes {P : Program} {w : World} (src dst e : TypeId) (hs : P.underlying src = some (.slice e)) (he : P.underlying e = some (.int .u8)) (hd : P.underlying dst = some .string)
    (a : Addr) (len cap : Nat) (l : List UInt8) (hl : l.length = len) (hc : ∀ j v, (bytesV l)[j]? = some v → w.cell? (a.add j) = some v) :
    (convert src dst (.slice (some a) len cap)).run P w = .ok (.string ⟨l.toArray⟩) w := by
  have e1 : bytesV l = (l.map fun b => (b.toNat : Int)).map (Value.int .u8) := by simp [bytesV]
  have h := run_loadCells_list (P := P) w a (bytesV l) hc
  rw [bytesV_length, hl, e1] at h
  rw [run_convert_bytes_string w src dst e _ len cap hs he hd, run_bytesToString w a len cap _ h, foldl_push_bytes]
  congr 2
  apply ByteArray.ext
  apply Array.ext'
  simp only [ByteArray.data_empty, List.map_map, Array.empty_append, List.toList_toArray]
  conv => rhs; rw [← List.map_id l]
  refine List.map_congr_left fun b _ => ?_
  simp
theorem run_str_of_blk {P : Program} {w : World} (src dst e : TypeId) (hs : P.underlying src = some (.slice e)) (he : P.underlying e = some (.int .u8)) (hd : P.underlying dst = some .string)
    (g off len cap : Nat) (l : List UInt8) (hl : l.length = len) (t : TypeId) (cs : List Value) (hg : Blk w g t cs) (hc : (cs.drop off).take len = bytesV l) :
    (convert src dst (.slice (some ⟨g, off, none⟩) len cap)).run P w = .ok (.string ⟨l.toArray⟩) w := by
  refine run_str_of_bytes src dst e hs he hd _ len cap l hl fun j v hj => ?_
  have hadd : (⟨g, off, none⟩ : Addr).add j = ⟨g, off + j, none⟩ := by unfold Addr.add; split <;> simp_all
  rw [hadd, hg.cell]
  rw [← hc, List.getElem?_take] at hj
  split at hj
  · simpa using hj
  · cases hj

/-- []byte(s): a new row that holds the bytes, with some room behind. -/
theorem str_bytes {P : Program} (w : World) (src dst e : TypeId) (s : ByteArray) {u : TypeDesc}
    (hs : P.underlying src = some u) (hd : P.underlying dst = some (.slice e)) (he : P.underlying e = some (.int .u8)) (hm : s.size ≤ maxLen) :
    ∃ cap W1, (convert src dst (.string s)).run P w = .ok (.slice (some ⟨w.heap.size, 0, none⟩) s.size cap) W1 ∧ s.size ≤ cap ∧ cap ≤ maxLen ∧ W1.heap.size = w.heap.size + 1 ∧
      Blk W1 w.heap.size e (bytesV s.data.toList ++ List.replicate (cap - s.size) (.int .u8 0)) ∧ Below w.heap.size w W1 := by
  refine ⟨_, _, Lib.run_convert_string_bytes w src dst e s hs hd he, grownCap_ge _ _ _ _, grownCap_le_maxLen _ _ _ _ hm, Lib.bytesWorld_size w e s, ⟨(Lib.bytesCells w e s).size, (Lib.bytesCells w e s).size + 1, ?_, .inr ?_⟩, ?_⟩
  · rw [Lib.bytesWorld_at_new]
    congr 2
    apply Array.ext'
    simp [Lib.bytesCells, bytesV]
  · simp [Lib.bytesCells, bytesV]
  · exact ⟨by simp [Lib.bytesWorld, World.freeze]; rfl, by simp [Lib.bytesWorld, World.freeze], by simp [Lib.bytesWorld, World.freeze]; rfl, by rw [Lib.bytesWorld_size]; omega, fun k hk => Lib.bytesWorld_at_old w e s k hk⟩
end Go.Proofs.YtpnllalefpkcjaaGreatDoor

namespace Go.Proofs.YtpnllalefpkcjaaGreatDoor
open Go.RowKit

/-- append of one element that has just been laid in a block of its own. -/
theorem wpList_append_own1 {P : Program} {w : World} {ops : Array Oper} {rest : List Oper} {o : Oper} {a : Act} {Q : Exit → Act → World → Prop} (hgd : o.guard = none) (s x : Operand) (t : TypeId)
    (ho : o.op = .call { callee := .builtin .append, args := #[s, x], argTypes := #[t, t] })
    (base : Nat) (e : TypeId) (z : Value) (bytes : Nat) (ht : P.underlying t = some (.slice e)) (hinfo : (P.info? e).map (fun i => (i.zero, i.size, i.bytes)) = some (some z, 1, bytes)) (hzs : z.cells.size = 1)
    (v : Value) (n : Nat) (xs : List Value) (hs : a.eval s = v) (w0 : World) (u : Value) (hw : w = w0.alloc (.cells #[u] e)) (hown : w0.ownsRow base e 1 v n xs)
    (hx : a.eval x = .slice (some ⟨w0.heap.size, 0, none⟩) 1 1) (h1 : u.oneCell' = true)
    (h63 : n + 1 ≤ maxLen) (hbytes : (n + 1) * bytes ≤ 140737488355328) (hbase : base ≤ w0.heap.size)
    (h : ∀ v' w', w'.ownsRow base e 1 v' (n + 1) (xs ++ [u]) → Below base w0 w' → wpList P ops Q rest (a.put o.dst v') w') : wpList P ops Q (o :: rest) a w := by
  obtain ⟨i, hi, hz, hsz, hb⟩ := info_parts hinfo
  subst hw
  refine wpList_append_own (w0.alloc (.cells #[u] e)) hgd s x t ho base e i z 1 bytes ht hi hz hsz hb hzs (by decide) v n xs hs (hown.alloc _) ⟨w0.heap.size, 0, none⟩ 1 1 [u] hx rfl ?_ ?_ h63 hbytes (by simp; omega) ?_
  · intro j u' hj
    match j, hj with
    | 0, hj =>
      simp at hj
      subst hj
      simp [Addr.add]
  · intro u' hu'
    simp at hu'
    subst hu'
    exact h1
  · intro v' w' hown' hgr _
    refine h v' w' hown' ?_
    exact ((Below.refl base w0).alloc hbase _).grown hgr (by simp; omega) (fun k hk => (hown.lt k hk).1)

/-- string(b), b a row of bytes of the call's own. -/
theorem run_str_of_own {P : Program} {w : World} (src dst e : TypeId) (hs : P.underlying src = some (.slice e)) (he : P.underlying e = some (.int .u8)) (hd : P.underlying dst = some .string)
    (base n : Nat) (v : Value) (l : List UInt8) (hown : w.ownsRow base e 1 v n (bytesV l)) :
    (convert src dst v).run P w = .ok (.string ⟨l.toArray⟩) w := by
  have hl : l.length = n := by have := hown.1; rw [bytesV_length] at this; omega
  rcases hown.2 with ⟨rfl, rfl⟩ | ⟨g, cap, cur, rfl, _, hg, hnc, _, hcs, htake⟩
  · have : l = [] := List.eq_nil_of_length_eq_zero hl
    subst this
    exact run_convert_bytes_nil (P := P) w src e hs he 0 0 dst hd
  · refine run_str_of_blk src dst e hs he hd g 0 n cap l hl e cur.toList ⟨0, 0, by simpa using hg, .inl rfl⟩ ?_
    rw [List.drop_zero, ← htake, Nat.mul_one]
end Go.Proofs.YtpnllalefpkcjaaGreatDoor

namespace Go.Proofs.YtpnllalefpkcjaaGreatDoor
open Go.ChangeShapes Go.WideShapes Go.ChangeAt Go.RowKit

/-- The slice value with this address, length and capacity holds just these one-cell values; of its spare room nothing is said. -/
def IsRow (w : World) (a : Option Addr) (len cap : Nat) (xs : List Value) : Prop :=
  xs.length = len ∧ len ≤ cap ∧ cap ≤ maxLen ∧ (0 < len → ∃ b off, a = some ⟨b, off, none⟩ ∧ b < w.heap.size ∧ ∀ j u, xs[j]? = some u → w.cell? ⟨b, off + j, none⟩ = some u)
def IsInts (k : IntKind) (w : World) (a : Option Addr) (len cap : Nat) (zs : List Int) : Prop := IsRow w a len cap (zs.map (Value.int k)) ∧ ∀ n ∈ zs, (Lit.int k n).wf = true
def IsBools (w : World) (a : Option Addr) (len cap : Nat) (zs : List Bool) : Prop := IsRow w a len cap (zs.map Value.bool)
def IsStrs (w : World) (a : Option Addr) (len cap : Nat) (ss : List ByteArray) : Prop := IsRow w a len cap (ss.map Value.string) ∧ ∀ s ∈ ss, s.size ≤ maxLen

theorem IsRow.below {w w' : World} {a : Option Addr} {len cap : Nat} {xs : List Value} (h : IsRow w a len cap xs) (hb : Below w.heap.size w w') : IsRow w' a len cap xs :=
  ⟨h.1, h.2.1, h.2.2.1, fun hn => by
    obtain ⟨b, off, e, hlt, hc⟩ := h.2.2.2 hn
    exact ⟨b, off, e, Nat.lt_of_lt_of_le hlt hb.size, fun j u hu => (hb.cell (p := ⟨b, off + j, none⟩) hlt).trans (hc j u hu)⟩⟩

theorem add_block (x : Addr) (i : Nat) (h : x.spot = none) : x.add i = ⟨x.block, x.off + i, none⟩ := by
  obtain ⟨b, o, s⟩ := x
  simp only at h
  subst h
  unfold Addr.add
  split <;> simp_all
theorem row_of {w : World} {x : Addr} {len cap : Nat} {xs : List Value} (h1 : xs.length = len) (hl : len ≤ cap) (hm : cap ≤ maxLen) (hc : ∀ j u, xs[j]? = some u → w.cell? (x.add j) = some u) : IsRow w (some x) len cap xs :=
  ⟨h1, hl, hm, fun hn => by
    have h0 := hc 0 _ (List.getElem?_eq_getElem (show 0 < xs.length by omega))
    have hs : x.spot = none := by simpa [Addr.add] using World.cell?_spot h0
    have hlt : x.block < w.heap.size := by
      have := World.block_lt_of_cell? w _ h0
      simpa [Addr.add] using this
    refine ⟨x.block, x.off, by rw [← hs], hlt, fun j u hu => ?_⟩
    rw [← add_block x j hs]
    exact hc j u hu⟩
theorem row_none {w : World} : IsRow w none 0 0 [] := ⟨rfl, Nat.le_refl _, Nat.zero_le _, fun h => absurd h (by omega)⟩

section
variable {H : Type} {enc : TypeId × Value → H} {P : Program} {w : World} {base : Nat} {held : Bool}
theorem is_ints {t e : TypeId} {k : IntKind} {a : Option Addr} {len cap : Nat} {d : DataW H} {p : List MemPlace} (ht : P.underlying t = some (.slice e)) (he : P.underlying e = some (.int k)) (hc : P.cellsOf e = 1)
    (h : DataW.Trod enc P w base (fun _ => true) held t (.slice a len cap) d p) : ∃ zs, IsInts k w a len cap zs := by
  obtain ⟨fuel, hf⟩ := h
  rcases open_ints ht he hc hf with ⟨hcs, _⟩ | ⟨x, l, c, zs, hcs, _, hl, hm, hz, _, hcell, hwz⟩
  · simp [Value.cells] at hcs
    obtain ⟨rfl, rfl, rfl⟩ := hcs
    exact ⟨[], row_none, fun n hn => by cases hn⟩
  · simp [Value.cells] at hcs
    obtain ⟨rfl, rfl, rfl⟩ := hcs
    simp only [if_true] at hz
    refine ⟨zs.take len, row_of (by simp; omega) hl hm (fun j u hu => ?_), fun n hn => hwz n (List.mem_of_mem_take hn)⟩
    rw [List.getElem?_map, List.getElem?_take] at hu
    split at hu
    · rename_i hj
      rw [hcell j (by omega)]
      have hjl : j < zs.length := by omega
      simp [hjl] at hu ⊢
      exact hu
    · cases hu
theorem is_bools {t e : TypeId} {a : Option Addr} {len cap : Nat} {d : DataW H} {p : List MemPlace} (ht : P.underlying t = some (.slice e)) (he : P.underlying e = some .bool) (hc : P.cellsOf e = 1)
    (h : DataW.Trod enc P w base (fun _ => true) held t (.slice a len cap) d p) : ∃ zs, IsBools w a len cap zs := by
  obtain ⟨fuel, hf⟩ := h
  rcases Deep.open_bools ht he hc hf with ⟨hcs, _⟩ | ⟨x, l, c, B, hcs, _, hl, hm, _, hcell⟩
  · simp [Value.cells] at hcs
    obtain ⟨rfl, rfl, rfl⟩ := hcs
    exact ⟨[], row_none⟩
  · simp [Value.cells] at hcs
    obtain ⟨rfl, rfl, rfl⟩ := hcs
    refine ⟨(List.range len).map B, row_of (by simp) hl hm (fun j u hu => ?_)⟩
    have hj : j < len := by
      rcases Nat.lt_or_ge j len with h | h
      · exact h
      · rw [List.getElem?_eq_none (by simpa using h)] at hu
        cases hu
    rw [hcell j (by omega)]
    simp [hj] at hu
    rw [hu]
theorem is_strs {t e : TypeId} {a : Option Addr} {len cap : Nat} {d : DataW H} {p : List MemPlace} (ht : P.underlying t = some (.slice e)) (he : P.underlying e = some .string) (hc : P.cellsOf e = 1)
    (h : DataW.Trod enc P w base (fun _ => true) held t (.slice a len cap) d p) : ∃ ss, IsStrs w a len cap ss := by
  obtain ⟨fuel, hf⟩ := h
  rcases open_strings ht he hc hf with ⟨hcs, _⟩ | ⟨x, l, c, zs, hcs, _, hl, hm, hz, _, hcell, hwz⟩
  · simp [Value.cells] at hcs
    obtain ⟨rfl, rfl, rfl⟩ := hcs
    exact ⟨[], row_none, fun n hn => by cases hn⟩
  · simp [Value.cells] at hcs
    obtain ⟨rfl, rfl, rfl⟩ := hcs
    simp only [if_true] at hz
    refine ⟨zs.take len, row_of (by simp; omega) hl hm (fun j u hu => ?_), fun n hn => hwz n (List.mem_of_mem_take hn)⟩
    rw [List.getElem?_map, List.getElem?_take] at hu
    split at hu
    · rename_i hj
      rw [hcell j (by omega)]
      have hjl : j < zs.length := by omega
      simp [hjl] at hu ⊢
      exact hu
    · cases hu
end
end Go.Proofs.YtpnllalefpkcjaaGreatDoor

namespace Go.Proofs.YtpnllalefpkcjaaGreatDoor
open Go.ChangeShapes Go.WideShapes Go.ChangeAt Go.RowKit
section
variable {H : Type} {enc : TypeId × Value → H} {P : Program} {w : World} {base : Nat} {held : Bool}
theorem struct_field {t : TypeId} {fs : Array Field} {fuel : Nat} {cs : List Value} {x : DataW H × List MemPlace} {spare : Nat → Bool} (ht : P.underlying t = some (.struct fs)) (hone : Deep.oneCellFields P fs = true) (hC : P.cellsOf t = fs.size)
    (h : DataW.trod enc P w base spare held fuel t cs = some x) :
    cs.length = fs.size ∧ ∃ n, ∀ (j : Nat) (f : Field) (c : Value), fs[j]? = some f → cs[j]? = some c → ∃ y, DataW.trod enc P w base spare held n f.type [c] = some y := by
  obtain ⟨ys, n, _, _, hlen, hyl, hf⟩ := DataW.trod_struct ht h
  refine ⟨hlen.trans hC, n, fun j f c hj hc => ?_⟩
  obtain ⟨ho, hk⟩ := Deep.hone_of hone j f hj
  have hjl : j < fs.size := (Array.getElem?_eq_some_iff.1 hj).1
  have h1 := hf j f hj
  rw [ho, hk] at h1
  have hjc : j < cs.length := by rw [hlen, hC]; exact hjl
  have hone' : (cs.drop j).take 1 = [c] := by
    rw [List.drop_eq_getElem_cons hjc]
    rw [List.getElem?_eq_getElem hjc] at hc
    injection hc with hc
    rw [hc]
    rfl
  rw [hone', List.getElem?_eq_getElem (by omega)] at h1
  exact ⟨_, h1⟩
theorem is_agg {t : TypeId} {fs : Array Field} {r : Reach} {b0 : Nat} {v : Value} {d : DataW H} {p : List MemPlace} {spare : Nat → Bool} (ht : P.underlying t = some (.struct fs)) (Pr : List Value → Prop) (hP : ∀ fuel cs x, DataW.trod enc P w base spare held fuel t cs = some x → Pr cs)
    (hv : Value.okWide P w r b0 t v) (h : DataW.Trod enc P w base spare held t v d p) : ∃ cs : List Value, v = .agg cs.toArray ∧ Pr cs := by
  obtain ⟨cs, rfl, _⟩ := okWide_struct ht hv
  obtain ⟨fuel, hf⟩ := h
  exact ⟨cs.toList, by simp, hP fuel _ _ hf⟩
end

/-- A slice of structs of k one-cell fields each: the rows that it holds. -/
def IsRecs (w : World) (a : Option Addr) (len cap k : Nat) (rows : List (List Value)) : Prop :=
  rows.length = len ∧ len ≤ cap ∧ cap ≤ maxLen ∧ (0 < len → ∃ b off, a = some ⟨b, off, none⟩ ∧ b < w.heap.size ∧ ∀ i r, rows[i]? = some r → ∀ j u, r[j]? = some u → w.cell? ⟨b, off + (i * k + j), none⟩ = some u)
theorem list_of_idx {α : Type} {Q : Nat → α → Prop} : ∀ n : Nat, (∀ i, i < n → ∃ x, Q i x) → ∃ l : List α, l.length = n ∧ ∀ i x, l[i]? = some x → Q i x
  | 0, _ => ⟨[], rfl, fun i x h => by simp at h⟩
  | n + 1, h => by
    obtain ⟨l, hl, hq⟩ := list_of_idx n (fun i hi => h i (by omega))
    obtain ⟨x, hx⟩ := h n (by omega)
    refine ⟨l ++ [x], by simp [hl], fun i y hy => ?_⟩
    by_cases hi : i < n
    · rw [List.getElem?_append_left (by omega)] at hy
      exact hq i y hy
    · by_cases hin : i = n
      · subst hin
        rw [List.getElem?_append_right (by omega), hl] at hy
        simp at hy
        rw [← hy]
        exact hx
      · rw [List.getElem?_eq_none (by simp; omega)] at hy
        cases hy
section
variable {H : Type} {enc : TypeId × Value → H} {P : Program} {w : World} {base : Nat} {held : Bool}
theorem is_recs {t e : TypeId} {k : Nat} {a : Option Addr} {len cap : Nat} {d : DataW H} {p : List MemPlace} (hk : 0 < k) (ht : P.underlying t = some (.slice e)) (hC : P.cellsOf e = k)
    (Pr : List Value → Prop) (hP : ∀ fuel cs x, DataW.trod enc P w base (fun _ => true) held fuel e cs = some x → Pr cs)
    (h : DataW.Trod enc P w base (fun _ => true) held t (.slice a len cap) d p) : ∃ rows, IsRecs w a len cap k rows ∧ ∀ r ∈ rows, Pr r := by
  obtain ⟨fuel, hf⟩ := h
  rcases Deep.open_slice ht hf with ⟨hcs, _⟩ | ⟨x, l, c, m, n, D, Pl, hcs, _, hl, hm, hmm, _, hi⟩
  · simp [Value.cells] at hcs
    obtain ⟨rfl, rfl, rfl⟩ := hcs
    exact ⟨[], ⟨rfl, Nat.le_refl _, Nat.zero_le _, fun h => absurd h (by omega)⟩, fun r hr => by cases hr⟩
  · simp [Value.cells] at hcs
    obtain ⟨rfl, rfl, rfl⟩ := hcs
    simp only [if_true] at hmm
    subst hmm
    rw [hC] at hi
    obtain ⟨rows, hrl, hq⟩ := list_of_idx (Q := fun i r => Pr r ∧ r.length = k ∧ ∀ j, j < k → w.cell? ((x.add (i * k)).add j) = r[j]?) len (fun i hil => by
      obtain ⟨cs', hc', ht'⟩ := hi i (by omega)
      obtain ⟨_, hcl, hat⟩ := World.cells?_some hc'
      exact ⟨cs', hP _ _ _ ht', hcl, hat⟩)
    refine ⟨rows, ⟨hrl, hl, hm, fun hpos => ?_⟩, fun r hr => ?_⟩
    · obtain ⟨r0, hr0⟩ : ∃ r0, rows[0]? = some r0 := ⟨rows[0]'(by omega), List.getElem?_eq_getElem _⟩
      obtain ⟨_, hlr, hc0⟩ := hq 0 r0 hr0
      have h0 := hc0 0 hk
      rw [List.getElem?_eq_getElem (by omega)] at h0
      simp only [Nat.zero_mul] at h0
      have hxx : (x.add 0).add 0 = x := by simp [Addr.add]
      rw [hxx] at h0
      have hs : x.spot = none := World.cell?_spot h0
      have hlt : x.block < w.heap.size := World.block_lt_of_cell? w _ h0
      refine ⟨x.block, x.off, by rw [← hs], hlt, fun i r hir j u hu => ?_⟩
      obtain ⟨_, hlr, hcj⟩ := hq i r hir
      have hj : j < k := by
        rcases Nat.lt_or_ge j r.length with h' | h'
        · omega
        · rw [List.getElem?_eq_none h'] at hu; cases hu
      have := hcj j hj
      rw [hu, add_block x _ hs, add_block _ j rfl] at this
      rw [← this]
      show w.cell? ⟨x.block, x.off + (i * k + j), none⟩ = w.cell? ⟨x.block, x.off + i * k + j, none⟩
      rw [Nat.add_assoc]
    · obtain ⟨i, hil, rfl⟩ := List.mem_iff_getElem.1 hr
      exact (hq i _ (List.getElem?_eq_getElem hil)).1
theorem recs_field {t e : TypeId} {k : Nat} {c : Value} {fuel : Nat} {x : DataW H × List MemPlace} (hk : 0 < k) (ht : P.underlying t = some (.slice e)) (hC : P.cellsOf e = k)
    (Pr : List Value → Prop) (hP : ∀ fuel cs x, DataW.trod enc P w base (fun _ => true) held fuel e cs = some x → Pr cs)
    (h : DataW.trod enc P w base (fun _ => true) held fuel t [c] = some x) : ∃ a len cap rows, c = .slice a len cap ∧ IsRecs w a len cap k rows ∧ ∀ r ∈ rows, Pr r := by
  rcases Deep.open_slice ht h with ⟨hcs, _⟩ | ⟨y, l, c', m, n, D, Pl, hcs, _⟩
  · obtain rfl : c = .slice none 0 0 := by simpa using hcs
    exact ⟨none, 0, 0, [], rfl, ⟨rfl, Nat.le_refl _, Nat.zero_le _, fun h => absurd h (by omega)⟩, fun r hr => by cases hr⟩
  · obtain rfl : c = .slice (some y) l c' := by simpa using hcs
    obtain ⟨rows, h1, h2⟩ := is_recs (d := x.1) (p := x.2) hk ht hC Pr hP ⟨fuel, h⟩
    exact ⟨_, _, _, rows, rfl, h1, h2⟩
end
end Go.Proofs.YtpnllalefpkcjaaGreatDoor
