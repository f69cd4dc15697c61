/-
StoreCut: the statement of the row, from the walk, and its card.
-/
import Derived.Test.YtaknmionaibodaaDoorStoreCut
import Derived.Test.YtaknmionaibodaaDoorFrame
import Derived.Test.YtaknmionaibodaaDoorRecs
import Derived.Test.YtaknmionaibodaaDoorRows
import Derived.Test.YtaknmionaibodaaDoorCastTab
import Derived.Test.YtaknmionaibodaaDoorCards
import Derived.Test.YtaknmionaibodaaDoorTie
import Derived.Deep.DeepHandedRow
import Derived.Lib.LaidTab
namespace Go.Proofs.YtaknmionaibodaaDoor.storeCutProof
open Go.ChangeShapes Go.WideShapes Go.ChangeAt Go.RowKit
open Go.ChangeMaps (open_string shut_string)

theorem own : ownKnob Tryd.prog.godebug = none := by kernel_rfl
theorem laidOut : laidOutB Tryd.prog = true := by kernel_rfl
theorem g0 : Tryd.prog.globalNamed "stepstone/cast.shifts" = some 0 := by kernel_rfl
theorem gt0 : (Tryd.prog.globals[0]?).map (·.type) = some 139 := by kernel_rfl
theorem gc0 : Tryd.prog.cellsOf 139 = 8 := by kernel_rfl
theorem ge0 : Tryd.prog.cellsOf 45 = 1 := by kernel_rfl
theorem table {W : World} (h : laidMetH Tryd.prog Rows.storeCutRow.laid W) : Lib.TabIs Tryd.prog W "stepstone/cast.shifts" .u64 [1, 256, 65536, 16777216, 4294967296, 1099511627776, 281474976710656, 72057594037927936] :=
  Lib.tabIs_of_head (rest := []) g0 gt0 Tryd.underlying139 Tryd.underlying45 ge0 gc0 h

set_option maxRecDepth 100000 in
theorem contract (H : Type) (enc : TypeId × Value → H) (W : World) (base : Nat) (args : Array Value) (ds gs : List (DataW H)) (before : List MemPlace)
    (hval : ∀ (j : Nat) t v, Tryd.f5.params[j]? = some t → args[j]? = some v → Value.okWide Tryd.prog W .any base t v)
    (hW : DataW.Whole enc Tryd.prog Tryd.f5.params.toList Rows.storeCutSpec.vars false W args.toList ds gs before) (hL : laidMetH Tryd.prog Rows.storeCutRow.laid W) :
    Calls Tryd.prog 5 args W fun e W' => ∃ v, e = .returned v ∧ Rows.storeCutSpec.post enc Tryd.prog Tryd.f5 false true false false W args v W' := by
  have hW' := hW
  obtain ⟨p, q, hA0, hV, rfl, hfz, hnd⟩ := hW
  have hA : DataW.TrodAll enc Tryd.prog W 0 (fun _ => true) true Tryd.f5.params.toList args.toList ds p := hA0
  rw [Tryd.params5] at hA hval
  obtain ⟨v0, vs0, d0, ds0, p0, q0, hargs, rfl, rfl, h0, r0⟩ := trodAll_cons hA
  obtain ⟨v1, vs1, d1, ds1, p1, q1, rfl, rfl, rfl, h1, r1⟩ := trodAll_cons r0
  obtain ⟨v2, vs2, d2, ds2, p2, q2, rfl, rfl, rfl, h2, r2⟩ := trodAll_cons r1
  obtain ⟨rfl, rfl, rfl⟩ := trodAll_nil r2
  obtain rfl : args = #[v0, v1, v2] := by cases args; simp_all
  obtain ⟨rfl, rfl⟩ := trodVars_none hV
  obtain ⟨a0, rfl, rfl, rfl, w0⟩ := open_string Tryd.underlying9 (hval 0 9 v0 rfl rfl) h0
  obtain ⟨a1, l1, c1, rfl⟩ := okWide_slice Tryd.underlying34 (hval 1 34 v1 rfl rfl)
  have k1 := h1
  have lt1 : ∀ x ∈ p1, x.block < W.heap.size := by obtain ⟨m, hm⟩ := k1; exact DataW.trod_lt m _ _ _ hm
  obtain ⟨z1, w1, pr1⟩ := is_recs (k := 2) (by decide) Tryd.underlying34 (by kernel_rfl) (fun r => ∃ (x0 : Int) (x1 : ByteArray), r = [.int .u8 x0, .string x1] ∧ (Lit.int .u8 x0).wf = true ∧ x1.size ≤ maxLen)
    (fun fuel cs x h => by
      obtain ⟨hl, n, hf⟩ := struct_field Tryd.underlying23 (by kernel_rfl) (by kernel_rfl) h
      have hl2 : cs.length = 2 := hl
      match cs, hl2 with
      | [c0, c1], _ =>
        obtain ⟨y0, g0⟩ := hf 0 _ c0 rfl rfl
        obtain ⟨x0, e0, -, u0⟩ := DataW.trod_int Tryd.underlying5 g0
        obtain rfl : c0 = _ := by simpa using e0
        obtain ⟨y1, g1⟩ := hf 1 _ c1 rfl rfl
        obtain ⟨x1, e1, -, u1⟩ := DataW.trod_string Tryd.underlying9 g1
        obtain rfl : c1 = _ := by simpa using e1
        exact ⟨_, _, rfl, u0, u1⟩)
    h1
  obtain ⟨a2, rfl, rfl, rfl, w2⟩ := open_int Tryd.underlying39 (hval 2 39 v2 rfl rfl) h2
  have b2 := bounds_u16 w2
  clear hA0
  refine (Store.storeCut_walk a0 a1 l1 c1 z1 a2 W w0 w1 pr1 b2.1 (by have := b2.2; omega) (shifts_of (table hL))).mono fun e W' ⟨he, bel⟩ => ?_
  subst he
  exact ⟨_, rfl, _, _, _, [], _, [], hW', trodAll_mk1 (shut_bool Tryd.underlying4 _), (trodAll_cons_mk (shut_string Tryd.underlying9 w0) (trodAll_cons_mk (Below.trod laidOut (by kernel_rfl) (of_decide_eq_true (by kernel_rfl)) k1 bel lt1) (trodAll_cons_mk (shut_int Tryd.underlying39 w2) trodAll_mk0))), rfl, bel.frame _, fun h => by cases h⟩

noncomputable def laidWorld (os : Os) : World :=
  { World.holding Tryd.prog os ⟨#[], #[], []⟩ with heap := (World.holding Tryd.prog os ⟨#[], #[], []⟩).heap.modify 0 fun
      | .cells _ t frozen => .cells #[.int .u64 1, .int .u64 256, .int .u64 65536, .int .u64 16777216, .int .u64 4294967296, .int .u64 1099511627776, .int .u64 281474976710656, .int .u64 72057594037927936] t frozen
      | o => o }
theorem laid_met (os : Os) : laidMet Tryd.prog Rows.storeCutRow.laid ((laidWorld os).forCall (fun _ _ => 0) ⟨#[], #[.string ByteArray.empty, .slice none 0 0, .int .u16 0], []⟩).memory :=
  laidMet_of_run' 8 (by kernel_rfl) (by kernel_rfl)
theorem reads (os : Os) {H : Type} (enc : TypeId × Value → H) : ∃ places, DataW.whole enc Tryd.prog ((laidWorld os).forCall (fun _ _ => 0) ⟨#[], #[.string ByteArray.empty, .slice none 0 0, .int .u16 0], []⟩).memory Tryd.f5.params.toList Rows.storeCutSpec.vars false (#[.string ByteArray.empty, .slice none 0 0, .int .u16 0] : Array Value).toList 8 = some ([.lit (.string []), .nil, .lit (.int .u16 0)], [], places) :=
  ⟨[], by kernel_rfl⟩

set_option maxRecDepth 100000 in
theorem lifted (os : Os) (started : os.Started) (H : Type) (enc : TypeId × Value → H) (F : Stop.Interp) :
    ReturnsInHanded {} Tryd.checked os 5 .any ((OpenSpec.ofChange Rows.storeCutSpec).preRow enc Tryd.prog Tryd.f5 Rows.storeCutRow.domain false Rows.storeCutRow.laid) (((OpenSpec.ofChange Rows.storeCutSpec).at F).post enc Tryd.prog Tryd.f5 false true false false) := by
  obtain ⟨places, hx⟩ := reads os enc
  refine returnsInHanded_of_row (C := Tryd.checked) (s := OpenSpec.ofChange Rows.storeCutSpec) own started (by kernel_rfl) Tryd.func5
    (witness_row_at (enc := enc) (C := Tryd.checked) false (laidWorld os) #[.string ByteArray.empty, .slice none 0 0, .int .u16 0] rfl (by kernel_rfl) (by kernel_rfl) (by kernel_rfl)
      (OpenSpec.preRow_of_cond 8 hx (by kernel_rfl) (fun k hk => by cases hk) (by kernel_rfl) (laid_met os))) ?_
  intro W base args ds gs before hval hW _ _ _ hL _ _
  exact contract H enc W base args ds gs before hval hW hL

theorem said : Rows.StoreCutSaid :=
  OpenClaim.holds_of_cond 5 Tryd.f5 rfl rfl rfl rfl rfl rfl rfl ⟨rfl, rfl, rfl, rfl, rfl⟩ rfl rfl rfl rfl rfl (by kernel_rfl) Tryd.func5 (by kernel_rfl)
    (of_decide_eq_true (by kernel_rfl)) (by unfold Func.isWrapper; first | (rw [if_pos (by decide +kernel)]; kernel_rfl) | (rw [if_neg (by decide +kernel)]; exact ⟨rfl, rfl⟩))
    (fun os started H enc _ F => by rw [OpenClaim.pre_eq_preRow]; exact lifted os started H enc F)

theorem plain (f : FuncId) (fn : Func) (hf : Tryd.pinned.checked.prog.funcNamed "stepstone/stepstonelaw29.StoreCut" = some f) (hfn : Tryd.pinned.checked.prog.funcs[f]? = some fn) :
    false = Tryd.pinned.checked.prog.looks [] ∧ ∀ (j : Nat) t, fn.params[j]? = some t → Tryd.pinned.checked.prog.wantsStandIn t = false := by
  obtain rfl : f = 5 := Option.some.inj ((show Tryd.prog.funcNamed "stepstone/stepstonelaw29.StoreCut" = some 5 by kernel_rfl).symm.trans hf) |>.symm
  obtain rfl : fn = Tryd.f5 := (Option.some.inj (Tryd.func5.symm.trans hfn)).symm
  refine ⟨by kernel_rfl, fun j t ht => ?_⟩
  rw [Tryd.params5] at ht
  have hm : t ∈ [9, 34, 39] := by simpa using Array.mem_of_getElem? ht
  have hall : ([9, 34, 39].all fun u => !Tryd.prog.wantsStandIn u) = true := by kernel_rfl
  exact (show Tryd.prog.wantsStandIn t = false by simpa using List.all_eq_true.1 hall t hm)

theorem card : Rows.StoreCutCardSaid :=
  Claim7.holds_tied_plain_at .later [] _ _ _ _ said (fun _ h => by cases h) (by kernel_rfl) (fun _ h => by cases h) storeCut_row_tie rfl ⟨rfl, rfl⟩ (by kernel_rfl) rfl plain (by kernel_rfl)
#print axioms card
end Go.Proofs.YtaknmionaibodaaDoor.storeCutProof
