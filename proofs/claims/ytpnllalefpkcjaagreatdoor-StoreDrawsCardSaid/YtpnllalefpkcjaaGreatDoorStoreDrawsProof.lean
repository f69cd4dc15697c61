/-
StoreDraws: the statement of the row, from the walk, and its card.
-/
import Derived.Test.YtpnllalefpkcjaaGreatDoorStoreDraws
import Derived.Test.YtpnllalefpkcjaaGreatDoorMemA
import Derived.Test.YtpnllalefpkcjaaGreatDoorNatB
import Derived.Test.YtpnllalefpkcjaaGreatDoorRows
import Derived.Test.YtpnllalefpkcjaaGreatDoorCastTab
import Derived.Test.YtpnllalefpkcjaaGreatDoorCards
import Derived.Test.YtpnllalefpkcjaaGreatDoorTie
import Derived.Deep.DeepHandedRow
import Derived.Lib.LaidTab
namespace Go.Proofs.YtpnllalefpkcjaaGreatDoor.storeDrawsProof
open Go.ChangeShapes Go.WideShapes Go.ChangeAt Go.RowKit
open Go.ChangeMaps (open_string shut_string)

theorem own : ownKnob Tryz.prog.godebug = none := by kernel_rfl
theorem laidOut : laidOutB Tryz.prog = true := by kernel_rfl
theorem g0 : Tryz.prog.globalNamed "stepstone/cast.shifts" = some 0 := by kernel_rfl
theorem gt0 : (Tryz.prog.globals[0]?).map (·.type) = some 138 := by kernel_rfl
theorem gc0 : Tryz.prog.cellsOf 138 = 8 := by kernel_rfl
theorem ge0 : Tryz.prog.cellsOf 26 = 1 := by kernel_rfl
theorem table {W : World} (h : laidMetH Tryz.prog Rows.storeDrawsRow.laid W) : Lib.TabIs Tryz.prog W "stepstone/cast.shifts" .u64 [1, 256, 65536, 16777216, 4294967296, 1099511627776, 281474976710656, 72057594037927936] :=
  Lib.tabIs_of_head (rest := []) g0 gt0 Tryz.underlying138 Tryz.underlying26 ge0 gc0 h

set_option maxRecDepth 100000 in
theorem contract (H : Type) (enc : TypeId × Value → H) (W : World) (base : Nat) (args : Array Value) (ds gs : List (DataW H)) (before : List MemPlace)
    (hval : ∀ (j : Nat) t v, Tryz.f3.params[j]? = some t → args[j]? = some v → Value.okWide Tryz.prog W .any base t v)
    (hW : DataW.Whole enc Tryz.prog Tryz.f3.params.toList Rows.storeDrawsSpec.vars false W args.toList ds gs before) (hL : laidMetH Tryz.prog Rows.storeDrawsRow.laid W) :
    Calls Tryz.prog 3 args W fun e W' => ∃ v, e = .returned v ∧ Rows.storeDrawsSpec.post enc Tryz.prog Tryz.f3 false true false false W args v W' := by
  have hW' := hW
  obtain ⟨p, q, hA0, hV, rfl, hfz, hnd⟩ := hW
  have hA : DataW.TrodAll enc Tryz.prog W 0 (fun _ => true) true Tryz.f3.params.toList args.toList ds p := hA0
  rw [Tryz.params3] at hA hval
  obtain ⟨v0, vs0, d0, ds0, p0, q0, hargs, rfl, rfl, h0, r0⟩ := trodAll_cons hA
  obtain ⟨v1, vs1, d1, ds1, p1, q1, rfl, rfl, rfl, h1, r1⟩ := trodAll_cons r0
  obtain ⟨v2, vs2, d2, ds2, p2, q2, rfl, rfl, rfl, h2, r2⟩ := trodAll_cons r1
  obtain ⟨rfl, rfl, rfl⟩ := trodAll_nil r2
  obtain rfl : args = #[v0, v1, v2] := by cases args; simp_all
  obtain ⟨rfl, rfl⟩ := trodVars_none hV
  have k0 := h0
  have lt0 : ∀ x ∈ p0, x.block < W.heap.size := by obtain ⟨m, hm⟩ := k0; exact DataW.trod_lt m _ _ _ hm
  obtain ⟨cs0, rfl, pr0⟩ := is_agg Tryz.underlying25 (fun r => ∃ (ax0 : Option Addr) (lx0 cx0 : Nat) (zx0 : List (List Value)) (x1 : Int), r = [.slice ax0 lx0 cx0, .int .u8 x1] ∧ IsRecs W ax0 lx0 cx0 2 zx0 ∧ (∀ q ∈ zx0, (fun r => ∃ (x0 : Bool) (vx1 : Value) (zx1 : List Nat), r = [.bool x0, vx1] ∧ Nat_.RawNat W vx1 zx1) q) ∧ (Lit.int .u8 x1).wf = true)
    (fun fuel cs x h => by
      obtain ⟨hl, n, hf⟩ := struct_field Tryz.underlying25 (by kernel_rfl) (by kernel_rfl) h
      have hl2 : cs.length = 2 := hl
      match cs, hl2 with
      | [c0, c1], _ =>
        obtain ⟨y0, g0⟩ := hf 0 _ c0 rfl rfl
        obtain ⟨a0, l0, m0, z0, e0, q0, n0⟩ := recs_field (k := 2) (by decide) Tryz.underlying22 (by kernel_rfl) (fun r => ∃ (x0 : Bool) (vx1 : Value) (zx1 : List Nat), r = [.bool x0, vx1] ∧ Nat_.RawNat W vx1 zx1)
          (fun fuel cs x h => by
            obtain ⟨hl, n, hf⟩ := struct_field Tryz.underlying47 (by kernel_rfl) (by kernel_rfl) h
            have hl2 : cs.length = 2 := hl
            match cs, hl2 with
            | [c0, c1], _ =>
              obtain ⟨y0, g0⟩ := hf 0 _ c0 rfl rfl
              obtain ⟨x0, e0, -⟩ := DataW.trod_bool Tryz.underlying4 g0
              obtain rfl : c0 = _ := by simpa using e0
              obtain ⟨y1, g1⟩ := hf 1 _ c1 rfl rfl
              obtain ⟨z1, u1⟩ := Nat_.nat_field Tryz.underlying45 Tryz.underlying26 (by kernel_rfl) g1
              exact ⟨_, _, _, rfl, u1⟩)
          g0
        obtain rfl : c0 = _ := e0
        obtain ⟨y1, g1⟩ := hf 1 _ c1 rfl rfl
        obtain ⟨x1, e1, -, u1⟩ := DataW.trod_int Tryz.underlying23 g1
        obtain rfl : c1 = _ := by simpa using e1
        exact ⟨_, _, _, _, _, rfl, q0, n0, u1⟩)
    (hval 0 25 v0 rfl rfl) h0
  obtain ⟨fa0_0, fl0_0, fc0_0, f0_0, f0_1, rfl, u0_0, p0_0, u0_1⟩ := pr0
  have b0_1 := bounds_u8 u0_1
  have k1 := h1
  have lt1 : ∀ x ∈ p1, x.block < W.heap.size := by obtain ⟨m, hm⟩ := k1; exact DataW.trod_lt m _ _ _ hm
  obtain ⟨cs1, rfl, pr1⟩ := is_agg Tryz.underlying28 (fun r => ∃ (x0 : Int) (x1 : Int) (ax2 : Option Addr) (lx2 cx2 : Nat) (zx2 : List (List Value)) (x3 : ByteArray), r = [.int .u64 x0, .int .u64 x1, .slice ax2 lx2 cx2, .string x3] ∧ (Lit.int .u64 x0).wf = true ∧ (Lit.int .u64 x1).wf = true ∧ IsRecs W ax2 lx2 cx2 2 zx2 ∧ (∀ q ∈ zx2, (fun r => ∃ (x0 : Bool) (vx1 : Value) (zx1 : List Nat), r = [.bool x0, vx1] ∧ Nat_.RawNat W vx1 zx1) q) ∧ x3.size ≤ maxLen)
    (fun fuel cs x h => by
      obtain ⟨hl, n, hf⟩ := struct_field Tryz.underlying28 (by kernel_rfl) (by kernel_rfl) h
      have hl2 : cs.length = 4 := hl
      match cs, hl2 with
      | [c0, c1, c2, c3], _ =>
        obtain ⟨y0, g0⟩ := hf 0 _ c0 rfl rfl
        obtain ⟨x0, e0, -, u0⟩ := DataW.trod_int Tryz.underlying26 g0
        obtain rfl : c0 = _ := by simpa using e0
        obtain ⟨y1, g1⟩ := hf 1 _ c1 rfl rfl
        obtain ⟨x1, e1, -, u1⟩ := DataW.trod_int Tryz.underlying26 g1
        obtain rfl : c1 = _ := by simpa using e1
        obtain ⟨y2, g2⟩ := hf 2 _ c2 rfl rfl
        obtain ⟨a2, l2, m2, z2, e2, q2, n2⟩ := recs_field (k := 2) (by decide) Tryz.underlying22 (by kernel_rfl) (fun r => ∃ (x0 : Bool) (vx1 : Value) (zx1 : List Nat), r = [.bool x0, vx1] ∧ Nat_.RawNat W vx1 zx1)
          (fun fuel cs x h => by
            obtain ⟨hl, n, hf⟩ := struct_field Tryz.underlying47 (by kernel_rfl) (by kernel_rfl) h
            have hl2 : cs.length = 2 := hl
            match cs, hl2 with
            | [c0, c1], _ =>
              obtain ⟨y0, g0⟩ := hf 0 _ c0 rfl rfl
              obtain ⟨x0, e0, -⟩ := DataW.trod_bool Tryz.underlying4 g0
              obtain rfl : c0 = _ := by simpa using e0
              obtain ⟨y1, g1⟩ := hf 1 _ c1 rfl rfl
              obtain ⟨z1, u1⟩ := Nat_.nat_field Tryz.underlying45 Tryz.underlying26 (by kernel_rfl) g1
              exact ⟨_, _, _, rfl, u1⟩)
          g2
        obtain rfl : c2 = _ := e2
        obtain ⟨y3, g3⟩ := hf 3 _ c3 rfl rfl
        obtain ⟨x3, e3, -, u3⟩ := DataW.trod_string Tryz.underlying9 g3
        obtain rfl : c3 = _ := by simpa using e3
        exact ⟨_, _, _, _, _, _, _, rfl, u0, u1, q2, n2, u3⟩)
    (hval 1 28 v1 rfl rfl) h1
  obtain ⟨f1_0, f1_1, fa1_2, fl1_2, fc1_2, f1_2, f1_3, rfl, u1_0, u1_1, u1_2, p1_2, u1_3⟩ := pr1
  have b1_0 := bounds_u64 u1_0
  have b1_1 := bounds_u64 u1_1
  obtain ⟨a2, rfl, rfl, rfl, w2⟩ := open_string Tryz.underlying9 (hval 2 9 v2 rfl rfl) h2
  clear hA0
  refine (Store.storeDraws_walk fa0_0 fl0_0 fc0_0 f0_0 f0_1 f1_0 f1_1 fa1_2 fl1_2 fc1_2 f1_2 f1_3 a2 W u0_0 p0_0 b0_1.1 (by have := b0_1.2; omega) b1_0.1 (by have := b1_0.2; omega) b1_1.1 (by have := b1_1.2; omega) u1_2 p1_2 u1_3 w2 (shifts_of (table hL))).mono fun e W' ⟨he, bel⟩ => ?_
  subst he
  exact ⟨_, rfl, _, _, _, [], _, [], hW', trodAll_mk1 (shut_bool Tryz.underlying4 _), (trodAll_cons_mk (Below.trod laidOut (by kernel_rfl) (of_decide_eq_true (by kernel_rfl)) k0 bel lt0) (trodAll_cons_mk (Below.trod laidOut (by kernel_rfl) (of_decide_eq_true (by kernel_rfl)) k1 bel lt1) (trodAll_cons_mk (shut_string Tryz.underlying9 w2) trodAll_mk0))), rfl, bel.frame _, fun h => by cases h⟩

noncomputable def laidWorld (os : Os) : World :=
  { World.holding Tryz.prog os ⟨#[], #[], []⟩ with heap := (World.holding Tryz.prog os ⟨#[], #[], []⟩).heap.modify 0 fun
      | .cells _ t frozen => .cells #[.int .u64 1, .int .u64 256, .int .u64 65536, .int .u64 16777216, .int .u64 4294967296, .int .u64 1099511627776, .int .u64 281474976710656, .int .u64 72057594037927936] t frozen
      | o => o }
theorem laid_met (os : Os) : laidMet Tryz.prog Rows.storeDrawsRow.laid ((laidWorld os).forCall (fun _ _ => 0) ⟨#[], #[.agg #[.slice none 0 0, .int .u8 0], .agg #[.int .u64 0, .int .u64 0, .slice none 0 0, .string ByteArray.empty], .string ByteArray.empty], []⟩).memory :=
  laidMet_of_run' 8 (by kernel_rfl) (by kernel_rfl)
theorem reads (os : Os) {H : Type} (enc : TypeId × Value → H) : ∃ places, DataW.whole enc Tryz.prog ((laidWorld os).forCall (fun _ _ => 0) ⟨#[], #[.agg #[.slice none 0 0, .int .u8 0], .agg #[.int .u64 0, .int .u64 0, .slice none 0 0, .string ByteArray.empty], .string ByteArray.empty], []⟩).memory Tryz.f3.params.toList Rows.storeDrawsSpec.vars false (#[.agg #[.slice none 0 0, .int .u8 0], .agg #[.int .u64 0, .int .u64 0, .slice none 0 0, .string ByteArray.empty], .string ByteArray.empty] : Array Value).toList 8 = some ([.agg [.nil, .lit (.int .u8 0)], .agg [.lit (.int .u64 0), .lit (.int .u64 0), .nil, .lit (.string [])], .lit (.string [])], [], places) :=
  ⟨[], by kernel_rfl⟩

set_option maxRecDepth 100000 in
theorem lifted (os : Os) (started : os.Started) (H : Type) (enc : TypeId × Value → H) (F : Stop.Interp) :
    ReturnsInHanded {} Tryz.checked os 3 .any ((OpenSpec.ofChange Rows.storeDrawsSpec).preRow enc Tryz.prog Tryz.f3 Rows.storeDrawsRow.domain false Rows.storeDrawsRow.laid) (((OpenSpec.ofChange Rows.storeDrawsSpec).at F).post enc Tryz.prog Tryz.f3 false true false false) := by
  obtain ⟨places, hx⟩ := reads os enc
  refine returnsInHanded_of_row (C := Tryz.checked) (s := OpenSpec.ofChange Rows.storeDrawsSpec) own started (by kernel_rfl) Tryz.func3
    (witness_row_at (enc := enc) (C := Tryz.checked) false (laidWorld os) #[.agg #[.slice none 0 0, .int .u8 0], .agg #[.int .u64 0, .int .u64 0, .slice none 0 0, .string ByteArray.empty], .string ByteArray.empty] rfl (by kernel_rfl) (by kernel_rfl) (by kernel_rfl)
      (OpenSpec.preRow_of_cond 8 hx (by kernel_rfl) (fun k hk => by cases hk) (by kernel_rfl) (laid_met os))) ?_
  intro W base args ds gs before hval hW _ _ _ hL _ _
  exact contract H enc W base args ds gs before hval hW hL

theorem said : Rows.StoreDrawsSaid :=
  OpenClaim.holds_of_cond 3 Tryz.f3 rfl rfl rfl rfl rfl rfl rfl ⟨rfl, rfl, rfl, rfl, rfl⟩ rfl rfl rfl rfl rfl (by kernel_rfl) Tryz.func3 (by kernel_rfl)
    (of_decide_eq_true (by kernel_rfl)) (by unfold Func.isWrapper; first | (rw [if_pos (by decide +kernel)]; kernel_rfl) | (rw [if_neg (by decide +kernel)]; exact ⟨rfl, rfl⟩))
    (fun os started H enc _ F => by rw [OpenClaim.pre_eq_preRow]; exact lifted os started H enc F)

theorem plain (f : FuncId) (fn : Func) (hf : Tryz.pinned.checked.prog.funcNamed "stepstone/stepstonelaw29.StoreDraws" = some f) (hfn : Tryz.pinned.checked.prog.funcs[f]? = some fn) :
    false = Tryz.pinned.checked.prog.looks [] ∧ ∀ (j : Nat) t, fn.params[j]? = some t → Tryz.pinned.checked.prog.wantsStandIn t = false := by
  obtain rfl : f = 3 := Option.some.inj ((show Tryz.prog.funcNamed "stepstone/stepstonelaw29.StoreDraws" = some 3 by kernel_rfl).symm.trans hf) |>.symm
  obtain rfl : fn = Tryz.f3 := (Option.some.inj (Tryz.func3.symm.trans hfn)).symm
  refine ⟨by kernel_rfl, fun j t ht => ?_⟩
  rw [Tryz.params3] at ht
  have hm : t ∈ [25, 28, 9] := by simpa using Array.mem_of_getElem? ht
  have hall : ([25, 28, 9].all fun u => !Tryz.prog.wantsStandIn u) = true := by kernel_rfl
  exact (show Tryz.prog.wantsStandIn t = false by simpa using List.all_eq_true.1 hall t hm)

theorem card : Rows.StoreDrawsCardSaid :=
  Claim7.holds_tied_plain_at .later [] _ _ _ _ said (fun _ h => by cases h) (by kernel_rfl) (fun _ h => by cases h) storeDraws_row_tie rfl ⟨rfl, rfl⟩ (by kernel_rfl) rfl plain (by kernel_rfl)
#print axioms card
end Go.Proofs.YtpnllalefpkcjaaGreatDoor.storeDrawsProof
