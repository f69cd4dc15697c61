/-
NotchOnce: the statement of the row, from the walk.
-/
import Derived.Test.YtmmlmcanjacngabNotchOnce
import Derived.Test.YtmmlmcanjacngabFrame
import Derived.Test.YtmmlmcanjacngabRecs
import Derived.Test.YtmmlmcanjacngabRows
namespace Go.Proofs.Ytmmlmcanjacngab.notchOnceProof
open Go.ChangeShapes Go.WideShapes Go.ChangeAt Go.RowKit
open Go.ChangeMaps (open_string shut_string)

theorem own : ownKnob Try.prog.godebug = none := by kernel_rfl
theorem laidOut : laidOutB Try.prog = true := by kernel_rfl

theorem contract (H : Type) (enc : TypeId × Value → H) (W : World) (base : Nat) (args : Array Value) (ds gs : List (DataW H)) (before : List MemPlace)
    (hval : ∀ (j : Nat) t v, Try.f3.params[j]? = some t → args[j]? = some v → Value.okWide Try.prog W .any base t v)
    (hW : DataW.Whole enc Try.prog Try.f3.params.toList Rows.notchOnceSpec.vars false W args.toList ds gs before) :
    Calls Try.prog 3 args W fun e W' => ∃ v, e = .returned v ∧ Rows.notchOnceSpec.post enc Try.prog Try.f3 false true false false W args v W' := by
  have hW' := hW
  obtain ⟨p, q, hA0, hV, rfl, hfz, hnd⟩ := hW
  have hA : DataW.TrodAll enc Try.prog W 0 (fun _ => true) true Try.f3.params.toList args.toList ds p := hA0
  rw [Try.params3] at hA hval
  obtain ⟨v0, vs0, d0, ds0, p0, q0, hargs, rfl, rfl, h0, r0⟩ := trodAll_cons hA
  obtain ⟨v1, vs1, d1, ds1, p1, q1, rfl, rfl, rfl, h1, r1⟩ := trodAll_cons r0
  obtain ⟨rfl, rfl, rfl⟩ := trodAll_nil r1
  obtain rfl : args = #[v0, v1] := by cases args; simp_all
  obtain ⟨rfl, rfl⟩ := trodVars_none hV
  obtain ⟨a0, rfl, rfl, rfl, w0⟩ := open_string Try.underlying9 (hval 0 9 v0 rfl rfl) h0
  obtain ⟨a1, l1, c1, rfl⟩ := okWide_slice Try.underlying22 (hval 1 22 v1 rfl rfl)
  have k1 := h1
  have lt1 : ∀ x ∈ p1, x.block < W.heap.size := by obtain ⟨m, hm⟩ := k1; exact DataW.trod_lt m _ _ _ hm
  obtain ⟨z1, w1, pr1⟩ := is_recs (k := 2) (by decide) Try.underlying22 (by kernel_rfl) (fun r => ∃ (x0 : Int) (x1 : Int), r = [.int .u8 x0, .int .i64 x1] ∧ (Lit.int .u8 x0).wf = true ∧ (Lit.int .i64 x1).wf = true)
    (fun fuel cs x h => by
      obtain ⟨hl, n, hf⟩ := struct_field Try.underlying27 (by kernel_rfl) (by kernel_rfl) h
      have hl2 : cs.length = 2 := hl
      match cs, hl2 with
      | [c0, c1], _ =>
        obtain ⟨y0, g0⟩ := hf 0 _ c0 rfl rfl
        obtain ⟨x0, e0, -, u0⟩ := DataW.trod_int Try.underlying5 g0
        obtain rfl : c0 = _ := by simpa using e0
        obtain ⟨y1, g1⟩ := hf 1 _ c1 rfl rfl
        obtain ⟨x1, e1, -, u1⟩ := DataW.trod_int Try.underlying3 g1
        obtain rfl : c1 = _ := by simpa using e1
        exact ⟨_, _, rfl, u0, u1⟩)
    h1
  clear hA0
  refine (Notch.notchOnce_walk a0 a1 l1 c1 z1 W w0 w1 pr1).mono fun e W' ⟨he, bel⟩ => ?_
  subst he
  exact ⟨_, rfl, _, _, _, [], _, [], hW', trodAll_mk1 (shut_bool Try.underlying4 _), (trodAll_cons_mk (shut_string Try.underlying9 w0) (trodAll_cons_mk (Below.trod laidOut (by kernel_rfl) (of_decide_eq_true (by kernel_rfl)) k1 bel lt1) trodAll_mk0)), rfl, bel.frame _, fun h => by cases h⟩

set_option maxRecDepth 100000 in
theorem lifted (os : Os) (started : os.Started) (H : Type) (enc : TypeId × Value → H) :
    ReturnsInHanded {} Try.checked os 3 .any (Rows.notchOnceSpec.pre6 enc Try.prog Try.f3 Rows.notchOnceRow.domain false) (Rows.notchOnceSpec.post enc Try.prog Try.f3 false true false false) := by
  refine returnsInHanded_of_change (C := Try.checked) own started (by kernel_rfl) Try.func3
    (ChangeSpec.witness6 (enc := enc) (C := Try.checked) false ⟨#[], #[.string ByteArray.empty, .slice none 0 0], []⟩ 8 (by kernel_rfl) (by kernel_rfl) (by kernel_rfl) (by kernel_rfl)) ?_
  intro W base args ds gs before hval hW _ _
  exact contract H enc W base args ds gs before hval hW

theorem said : Rows.NotchOnceSaid :=
  OpenClaim.holds_of_wide 3 Try.f3 rfl rfl rfl rfl rfl rfl rfl ⟨rfl, rfl, rfl, rfl, rfl⟩ rfl rfl rfl rfl rfl (by kernel_rfl) Try.func3 (by kernel_rfl)
    (of_decide_eq_true (by kernel_rfl)) (by unfold Func.isWrapper; first | (rw [if_pos (by decide +kernel)]; kernel_rfl) | (rw [if_neg (by decide +kernel)]; exact ⟨rfl, rfl⟩))
    (fun os started H enc _ => lifted os started H enc)
#print axioms said
end Go.Proofs.Ytmmlmcanjacngab.notchOnceProof
