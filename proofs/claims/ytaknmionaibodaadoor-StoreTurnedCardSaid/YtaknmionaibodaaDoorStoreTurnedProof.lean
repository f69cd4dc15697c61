/-
StoreTurned: the statement of the row, from the walk, and its card.
-/
import Derived.Test.YtaknmionaibodaaDoorStoreTurned
import Derived.Test.YtaknmionaibodaaDoorFrame
import Derived.Test.YtaknmionaibodaaDoorRecs
import Derived.Test.YtaknmionaibodaaDoorRows
import Derived.Test.YtaknmionaibodaaDoorCastTab
import Derived.Test.YtaknmionaibodaaDoorCards
import Derived.Test.YtaknmionaibodaaDoorTie
import Derived.Deep.DeepHandedRow
import Derived.Lib.LaidTab
namespace Go.Proofs.YtaknmionaibodaaDoor.storeTurnedProof
open Go.ChangeShapes Go.WideShapes Go.ChangeAt Go.RowKit
open Go.ChangeMaps (open_string shut_string)

theorem own : ownKnob Tryd.prog.godebug = none := by kernel_rfl
theorem laidOut : laidOutB Tryd.prog = true := by kernel_rfl
theorem g0 : Tryd.prog.globalNamed "stepstone/cast.shifts" = some 0 := by kernel_rfl
theorem gt0 : (Tryd.prog.globals[0]?).map (·.type) = some 139 := by kernel_rfl
theorem gc0 : Tryd.prog.cellsOf 139 = 8 := by kernel_rfl
theorem ge0 : Tryd.prog.cellsOf 45 = 1 := by kernel_rfl
theorem table {W : World} (h : laidMetH Tryd.prog Rows.storeTurnedRow.laid W) : Lib.TabIs Tryd.prog W "stepstone/cast.shifts" .u64 [1, 256, 65536, 16777216, 4294967296, 1099511627776, 281474976710656, 72057594037927936] :=
  Lib.tabIs_of_head (rest := []) g0 gt0 Tryd.underlying139 Tryd.underlying45 ge0 gc0 h

set_option maxRecDepth 100000 in
theorem contract (H : Type) (enc : TypeId × Value → H) (W : World) (base : Nat) (args : Array Value) (ds gs : List (DataW H)) (before : List MemPlace)
    (hval : ∀ (j : Nat) t v, Tryd.f6.params[j]? = some t → args[j]? = some v → Value.okWide Tryd.prog W .any base t v)
    (hW : DataW.Whole enc Tryd.prog Tryd.f6.params.toList Rows.storeTurnedSpec.vars false W args.toList ds gs before) (hL : laidMetH Tryd.prog Rows.storeTurnedRow.laid W) :
    Calls Tryd.prog 6 args W fun e W' => ∃ v, e = .returned v ∧ Rows.storeTurnedSpec.post enc Tryd.prog Tryd.f6 false true false false W args v W' := by
  have hW' := hW
  obtain ⟨p, q, hA0, hV, rfl, hfz, hnd⟩ := hW
  have hA : DataW.TrodAll enc Tryd.prog W 0 (fun _ => true) true Tryd.f6.params.toList args.toList ds p := hA0
  rw [Tryd.params6] at hA hval
  obtain ⟨v0, vs0, d0, ds0, p0, q0, hargs, rfl, rfl, h0, r0⟩ := trodAll_cons hA
  obtain ⟨rfl, rfl, rfl⟩ := trodAll_nil r0
  obtain rfl : args = #[v0] := by cases args; simp_all
  obtain ⟨rfl, rfl⟩ := trodVars_none hV
  have k0 := h0
  have lt0 : ∀ x ∈ p0, x.block < W.heap.size := by obtain ⟨m, hm⟩ := k0; exact DataW.trod_lt m _ _ _ hm
  obtain ⟨cs0, rfl, pr0⟩ := is_agg Tryd.underlying47 (fun r => ∃ (x0 : ByteArray) (ax1 : Option Addr) (lx1 cx1 : Nat) (zx1 : List (List Value)) (x2 : Int) (x3 : Int), r = [.string x0, .slice ax1 lx1 cx1, .int .u16 x2, .int .u64 x3] ∧ x0.size ≤ maxLen ∧ IsRecs W ax1 lx1 cx1 2 zx1 ∧ (∀ q ∈ zx1, (fun r => ∃ (x0 : Int) (x1 : ByteArray), r = [.int .u8 x0, .string x1] ∧ (Lit.int .u8 x0).wf = true ∧ x1.size ≤ maxLen) q) ∧ (Lit.int .u16 x2).wf = true ∧ (Lit.int .u64 x3).wf = true)
    (fun fuel cs x h => by
      obtain ⟨hl, n, hf⟩ := struct_field Tryd.underlying47 (by kernel_rfl) (by kernel_rfl) h
      have hl2 : cs.length = 4 := hl
      match cs, hl2 with
      | [c0, c1, c2, c3], _ =>
        obtain ⟨y0, g0⟩ := hf 0 _ c0 rfl rfl
        obtain ⟨x0, e0, -, u0⟩ := DataW.trod_string Tryd.underlying9 g0
        obtain rfl : c0 = _ := by simpa using e0
        obtain ⟨y1, g1⟩ := hf 1 _ c1 rfl rfl
        obtain ⟨a1, l1, m1, z1, e1, q1, n1⟩ := recs_field (k := 2) (by decide) Tryd.underlying34 (by kernel_rfl) (fun r => ∃ (x0 : Int) (x1 : ByteArray), r = [.int .u8 x0, .string x1] ∧ (Lit.int .u8 x0).wf = true ∧ x1.size ≤ maxLen)
          (fun fuel cs x h => by
            obtain ⟨hl, n, hf⟩ := struct_field Tryd.underlying23 (by kernel_rfl) (by kernel_rfl) h
            have hl2 : cs.length = 2 := hl
            match cs, hl2 with
            | [c0, c1], _ =>
              obtain ⟨y0, g0⟩ := hf 0 _ c0 rfl rfl
              obtain ⟨x0, e0, -, u0⟩ := DataW.trod_int Tryd.underlying5 g0
              obtain rfl : c0 = _ := by simpa using e0
              obtain ⟨y1, g1⟩ := hf 1 _ c1 rfl rfl
              obtain ⟨x1, e1, -, u1⟩ := DataW.trod_string Tryd.underlying9 g1
              obtain rfl : c1 = _ := by simpa using e1
              exact ⟨_, _, rfl, u0, u1⟩)
          g1
        obtain rfl : c1 = _ := e1
        obtain ⟨y2, g2⟩ := hf 2 _ c2 rfl rfl
        obtain ⟨x2, e2, -, u2⟩ := DataW.trod_int Tryd.underlying39 g2
        obtain rfl : c2 = _ := by simpa using e2
        obtain ⟨y3, g3⟩ := hf 3 _ c3 rfl rfl
        obtain ⟨x3, e3, -, u3⟩ := DataW.trod_int Tryd.underlying45 g3
        obtain rfl : c3 = _ := by simpa using e3
        exact ⟨_, _, _, _, _, _, _, rfl, u0, q1, n1, u2, u3⟩)
    (hval 0 47 v0 rfl rfl) h0
  obtain ⟨f0_0, fa0_1, fl0_1, fc0_1, f0_1, f0_2, f0_3, rfl, u0_0, u0_1, p0_1, u0_2, u0_3⟩ := pr0
  have b0_2 := bounds_u16 u0_2
  have b0_3 := bounds_u64 u0_3
  clear hA0
  refine (Store.storeTurned_walk f0_0 fa0_1 fl0_1 fc0_1 f0_1 f0_2 f0_3 W u0_0 u0_1 p0_1 b0_2.1 (by have := b0_2.2; omega) b0_3.1 (by have := b0_3.2; omega) (shifts_of (table hL))).mono fun e W' ⟨he, bel⟩ => ?_
  subst he
  exact ⟨_, rfl, _, _, _, [], _, [], hW', trodAll_mk1 (shut_bool Tryd.underlying4 _), (trodAll_cons_mk (Below.trod laidOut (by kernel_rfl) (of_decide_eq_true (by kernel_rfl)) k0 bel lt0) trodAll_mk0), rfl, bel.frame _, fun h => by cases h⟩

noncomputable def laidWorld (os : Os) : World :=
  { World.holding Tryd.prog os ⟨#[], #[], []⟩ with heap := (World.holding Tryd.prog os ⟨#[], #[], []⟩).heap.modify 0 fun
      | .cells _ t frozen => .cells #[.int .u64 1, .int .u64 256, .int .u64 65536, .int .u64 16777216, .int .u64 4294967296, .int .u64 1099511627776, .int .u64 281474976710656, .int .u64 72057594037927936] t frozen
      | o => o }
theorem laid_met (os : Os) : laidMet Tryd.prog Rows.storeTurnedRow.laid ((laidWorld os).forCall (fun _ _ => 0) ⟨#[], #[.agg #[.string ByteArray.empty, .slice none 0 0, .int .u16 0, .int .u64 0]], []⟩).memory :=
  laidMet_of_run' 8 (by kernel_rfl) (by kernel_rfl)
theorem reads (os : Os) {H : Type} (enc : TypeId × Value → H) : ∃ places, DataW.whole enc Tryd.prog ((laidWorld os).forCall (fun _ _ => 0) ⟨#[], #[.agg #[.string ByteArray.empty, .slice none 0 0, .int .u16 0, .int .u64 0]], []⟩).memory Tryd.f6.params.toList Rows.storeTurnedSpec.vars false (#[.agg #[.string ByteArray.empty, .slice none 0 0, .int .u16 0, .int .u64 0]] : Array Value).toList 8 = some ([.agg [.lit (.string []), .nil, .lit (.int .u16 0), .lit (.int .u64 0)]], [], places) :=
  ⟨[], by kernel_rfl⟩

set_option maxRecDepth 100000 in
theorem lifted (os : Os) (started : os.Started) (H : Type) (enc : TypeId × Value → H) (F : Stop.Interp) :
    ReturnsInHanded {} Tryd.checked os 6 .any ((OpenSpec.ofChange Rows.storeTurnedSpec).preRow enc Tryd.prog Tryd.f6 Rows.storeTurnedRow.domain false Rows.storeTurnedRow.laid) (((OpenSpec.ofChange Rows.storeTurnedSpec).at F).post enc Tryd.prog Tryd.f6 false true false false) := by
  obtain ⟨places, hx⟩ := reads os enc
  refine returnsInHanded_of_row (C := Tryd.checked) (s := OpenSpec.ofChange Rows.storeTurnedSpec) own started (by kernel_rfl) Tryd.func6
    (witness_row_at (enc := enc) (C := Tryd.checked) false (laidWorld os) #[.agg #[.string ByteArray.empty, .slice none 0 0, .int .u16 0, .int .u64 0]] rfl (by kernel_rfl) (by kernel_rfl) (by kernel_rfl)
      (OpenSpec.preRow_of_cond 8 hx (by kernel_rfl) (fun k hk => by cases hk) (by kernel_rfl) (laid_met os))) ?_
  intro W base args ds gs before hval hW _ _ _ hL _ _
  exact contract H enc W base args ds gs before hval hW hL

theorem said : Rows.StoreTurnedSaid :=
  OpenClaim.holds_of_cond 6 Tryd.f6 rfl rfl rfl rfl rfl rfl rfl ⟨rfl, rfl, rfl, rfl, rfl⟩ rfl rfl rfl rfl rfl (by kernel_rfl) Tryd.func6 (by kernel_rfl)
    (of_decide_eq_true (by kernel_rfl)) (by unfold Func.isWrapper; first | (rw [if_pos (by decide +kernel)]; kernel_rfl) | (rw [if_neg (by decide +kernel)]; exact ⟨rfl, rfl⟩))
    (fun os started H enc _ F => by rw [OpenClaim.pre_eq_preRow]; exact lifted os started H enc F)

theorem plain (f : FuncId) (fn : Func) (hf : Tryd.pinned.checked.prog.funcNamed "stepstone/stepstonelaw29.StoreTurned" = some f) (hfn : Tryd.pinned.checked.prog.funcs[f]? = some fn) :
    false = Tryd.pinned.checked.prog.looks [] ∧ ∀ (j : Nat) t, fn.params[j]? = some t → Tryd.pinned.checked.prog.wantsStandIn t = false := by
  obtain rfl : f = 6 := Option.some.inj ((show Tryd.prog.funcNamed "stepstone/stepstonelaw29.StoreTurned" = some 6 by kernel_rfl).symm.trans hf) |>.symm
  obtain rfl : fn = Tryd.f6 := (Option.some.inj (Tryd.func6.symm.trans hfn)).symm
  refine ⟨by kernel_rfl, fun j t ht => ?_⟩
  rw [Tryd.params6] at ht
  have hm : t ∈ [47] := by simpa using Array.mem_of_getElem? ht
  have hall : ([47].all fun u => !Tryd.prog.wantsStandIn u) = true := by kernel_rfl
  exact (show Tryd.prog.wantsStandIn t = false by simpa using List.all_eq_true.1 hall t hm)

theorem card : Rows.StoreTurnedCardSaid :=
  Claim7.holds_tied_plain_at .later [] _ _ _ _ said (fun _ h => by cases h) (by kernel_rfl) (fun _ h => by cases h) storeTurned_row_tie rfl ⟨rfl, rfl⟩ (by kernel_rfl) rfl plain (by kernel_rfl)
#print axioms card
end Go.Proofs.YtaknmionaibodaaDoor.storeTurnedProof
