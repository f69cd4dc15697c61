/-
NotchOrder: the statement of the row, from the walk.
-/
import Derived.Test.YtmmlmcanjacngaaNotchOrder
import Derived.Test.YtmmlmcanjacngaaFrame
import Derived.Test.YtmmlmcanjacngaaRecs
import Derived.Test.YtmmlmcanjacngaaRows
namespace Go.Proofs.Ytmmlmcanjacngaa.notchOrderProof
open Go.ChangeShapes Go.WideShapes Go.ChangeAt Go.RowKit
open Go.ChangeMaps (open_string shut_string)

theorem own : ownKnob Try.prog.godebug = none := by kernel_rfl
theorem laidOut : laidOutB Try.prog = true := by kernel_rfl

theorem contract (H : Type) (enc : TypeId × Value → H) (W : World) (base : Nat) (args : Array Value) (ds gs : List (DataW H)) (before : List MemPlace)
    (hval : ∀ (j : Nat) t v, Try.f4.params[j]? = some t → args[j]? = some v → Value.okWide Try.prog W .any base t v)
    (hW : DataW.Whole enc Try.prog Try.f4.params.toList Rows.notchOrderSpec.vars false W args.toList ds gs before) :
    Calls Try.prog 4 args W fun e W' => ∃ v, e = .returned v ∧ Rows.notchOrderSpec.post enc Try.prog Try.f4 false true false false W args v W' := by
  have hW' := hW
  obtain ⟨p, q, hA0, hV, rfl, hfz, hnd⟩ := hW
  have hA : DataW.TrodAll enc Try.prog W 0 (fun _ => true) true Try.f4.params.toList args.toList ds p := hA0
  rw [Try.params4] at hA hval
  obtain ⟨v0, vs0, d0, ds0, p0, q0, hargs, rfl, rfl, h0, r0⟩ := trodAll_cons hA
  obtain ⟨rfl, rfl, rfl⟩ := trodAll_nil r0
  obtain rfl : args = #[v0] := by cases args; simp_all
  obtain ⟨rfl, rfl⟩ := trodVars_none hV
  have k0 := h0
  have lt0 : ∀ x ∈ p0, x.block < W.heap.size := by obtain ⟨m, hm⟩ := k0; exact DataW.trod_lt m _ _ _ hm
  obtain ⟨cs0, rfl, pr0⟩ := is_agg Try.underlying32 (fun r => ∃ (x0 : Int) (x1 : Int) (x2 : ByteArray) (x3 : ByteArray), r = [.int .u64 x0, .int .u64 x1, .string x2, .string x3] ∧ (Lit.int .u64 x0).wf = true ∧ (Lit.int .u64 x1).wf = true ∧ x2.size ≤ maxLen ∧ x3.size ≤ maxLen)
    (fun fuel cs x h => by
      obtain ⟨hl, n, hf⟩ := struct_field Try.underlying32 (by kernel_rfl) (by kernel_rfl) h
      have hl2 : cs.length = 4 := hl
      match cs, hl2 with
      | [c0, c1, c2, c3], _ =>
        obtain ⟨y0, g0⟩ := hf 0 _ c0 rfl rfl
        obtain ⟨x0, e0, -, u0⟩ := DataW.trod_int Try.underlying25 g0
        obtain rfl : c0 = _ := by simpa using e0
        obtain ⟨y1, g1⟩ := hf 1 _ c1 rfl rfl
        obtain ⟨x1, e1, -, u1⟩ := DataW.trod_int Try.underlying25 g1
        obtain rfl : c1 = _ := by simpa using e1
        obtain ⟨y2, g2⟩ := hf 2 _ c2 rfl rfl
        obtain ⟨x2, e2, -, u2⟩ := DataW.trod_string Try.underlying9 g2
        obtain rfl : c2 = _ := by simpa using e2
        obtain ⟨y3, g3⟩ := hf 3 _ c3 rfl rfl
        obtain ⟨x3, e3, -, u3⟩ := DataW.trod_string Try.underlying9 g3
        obtain rfl : c3 = _ := by simpa using e3
        exact ⟨_, _, _, _, rfl, u0, u1, u2, u3⟩)
    (hval 0 32 v0 rfl rfl) h0
  obtain ⟨f0_0, f0_1, f0_2, f0_3, rfl, u0_0, u0_1, u0_2, u0_3⟩ := pr0
  have b0_0 := bounds_u64 u0_0
  have b0_1 := bounds_u64 u0_1
  clear hA0
  refine (Notch.notchOrder_walk f0_0 f0_1 f0_2 f0_3 W b0_0.1 (by have := b0_0.2; omega) b0_1.1 (by have := b0_1.2; omega) u0_2 u0_3).mono fun e W' ⟨he, bel⟩ => ?_
  subst he
  exact ⟨_, rfl, _, _, _, [], _, [], hW', trodAll_mk1 (shut_bool Try.underlying4 _), (trodAll_cons_mk (Below.trod laidOut (by kernel_rfl) (of_decide_eq_true (by kernel_rfl)) k0 bel lt0) trodAll_mk0), rfl, bel.frame _, fun h => by cases h⟩

set_option maxRecDepth 100000 in
theorem lifted (os : Os) (started : os.Started) (H : Type) (enc : TypeId × Value → H) :
    ReturnsInHanded {} Try.checked os 4 .any (Rows.notchOrderSpec.pre6 enc Try.prog Try.f4 Rows.notchOrderRow.domain false) (Rows.notchOrderSpec.post enc Try.prog Try.f4 false true false false) := by
  refine returnsInHanded_of_change (C := Try.checked) own started (by kernel_rfl) Try.func4
    (ChangeSpec.witness6 (enc := enc) (C := Try.checked) false ⟨#[], #[.agg #[.int .u64 0, .int .u64 0, .string ByteArray.empty, .string ByteArray.empty]], []⟩ 8 (by kernel_rfl) (by kernel_rfl) (by kernel_rfl) (by kernel_rfl)) ?_
  intro W base args ds gs before hval hW _ _
  exact contract H enc W base args ds gs before hval hW

theorem said : Rows.NotchOrderSaid :=
  OpenClaim.holds_of_wide 4 Try.f4 rfl rfl rfl rfl rfl rfl rfl ⟨rfl, rfl, rfl, rfl, rfl⟩ rfl rfl rfl rfl rfl (by kernel_rfl) Try.func4 (by kernel_rfl)
    (of_decide_eq_true (by kernel_rfl)) (by unfold Func.isWrapper; first | (rw [if_pos (by decide +kernel)]; kernel_rfl) | (rw [if_neg (by decide +kernel)]; exact ⟨rfl, rfl⟩))
    (fun os started H enc _ => lifted os started H enc)
#print axioms said
end Go.Proofs.Ytmmlmcanjacngaa.notchOrderProof
