/-
NotchBack: the statement of the row, from the walk.
-/
import Derived.Test.YtmmlmcanjacngaaNotchBack
import Derived.Test.YtmmlmcanjacngaaFrame
import Derived.Test.YtmmlmcanjacngaaRecs
import Derived.Test.YtmmlmcanjacngaaRows
namespace Go.Proofs.Ytmmlmcanjacngaa.notchBackProof
open Go.ChangeShapes Go.WideShapes Go.ChangeAt Go.RowKit
open Go.ChangeMaps (open_string shut_string)

theorem own : ownKnob Try.prog.godebug = none := by kernel_rfl
theorem laidOut : laidOutB Try.prog = true := by kernel_rfl

theorem contract (H : Type) (enc : TypeId × Value → H) (W : World) (base : Nat) (args : Array Value) (ds gs : List (DataW H)) (before : List MemPlace)
    (hval : ∀ (j : Nat) t v, Try.f7.params[j]? = some t → args[j]? = some v → Value.okWide Try.prog W .any base t v)
    (hW : DataW.Whole enc Try.prog Try.f7.params.toList Rows.notchBackSpec.vars false W args.toList ds gs before) :
    Calls Try.prog 7 args W fun e W' => ∃ v, e = .returned v ∧ Rows.notchBackSpec.post enc Try.prog Try.f7 false true false false W args v W' := by
  have hW' := hW
  obtain ⟨p, q, hA0, hV, rfl, hfz, hnd⟩ := hW
  have hA : DataW.TrodAll enc Try.prog W 0 (fun _ => true) true Try.f7.params.toList args.toList ds p := hA0
  rw [Try.params7] at hA hval
  obtain ⟨v0, vs0, d0, ds0, p0, q0, hargs, rfl, rfl, h0, r0⟩ := trodAll_cons hA
  obtain ⟨rfl, rfl, rfl⟩ := trodAll_nil r0
  obtain rfl : args = #[v0] := by cases args; simp_all
  obtain ⟨rfl, rfl⟩ := trodVars_none hV
  obtain ⟨a0, l0, c0, rfl⟩ := okWide_slice Try.underlying50 (hval 0 50 v0 rfl rfl)
  have k0 := h0
  have lt0 : ∀ x ∈ p0, x.block < W.heap.size := by obtain ⟨m, hm⟩ := k0; exact DataW.trod_lt m _ _ _ hm
  obtain ⟨z0, w0, pr0⟩ := is_recs (k := 3) (by decide) Try.underlying50 (by kernel_rfl) (fun r => ∃ (x0 : Bool) (x1 : Int) (x2 : ByteArray), r = [.bool x0, .int .u64 x1, .string x2] ∧ (Lit.int .u64 x1).wf = true ∧ x2.size ≤ maxLen)
    (fun fuel cs x h => by
      obtain ⟨hl, n, hf⟩ := struct_field Try.underlying52 (by kernel_rfl) (by kernel_rfl) h
      have hl2 : cs.length = 3 := hl
      match cs, hl2 with
      | [c0, c1, c2], _ =>
        obtain ⟨y0, g0⟩ := hf 0 _ c0 rfl rfl
        obtain ⟨x0, e0, -⟩ := DataW.trod_bool Try.underlying4 g0
        obtain rfl : c0 = _ := by simpa using e0
        obtain ⟨y1, g1⟩ := hf 1 _ c1 rfl rfl
        obtain ⟨x1, e1, -, u1⟩ := DataW.trod_int Try.underlying25 g1
        obtain rfl : c1 = _ := by simpa using e1
        obtain ⟨y2, g2⟩ := hf 2 _ c2 rfl rfl
        obtain ⟨x2, e2, -, u2⟩ := DataW.trod_string Try.underlying9 g2
        obtain rfl : c2 = _ := by simpa using e2
        exact ⟨_, _, _, rfl, u1, u2⟩)
    h0
  clear hA0
  refine (Notch.notchBack_walk a0 l0 c0 z0 W w0 pr0).mono fun e W' ⟨he, bel⟩ => ?_
  subst he
  exact ⟨_, rfl, _, _, _, [], _, [], hW', trodAll_mk1 (shut_bool Try.underlying4 _), (trodAll_cons_mk (Below.trod laidOut (by kernel_rfl) (of_decide_eq_true (by kernel_rfl)) k0 bel lt0) trodAll_mk0), rfl, bel.frame _, fun h => by cases h⟩

set_option maxRecDepth 100000 in
theorem lifted (os : Os) (started : os.Started) (H : Type) (enc : TypeId × Value → H) :
    ReturnsInHanded {} Try.checked os 7 .any (Rows.notchBackSpec.pre6 enc Try.prog Try.f7 Rows.notchBackRow.domain false) (Rows.notchBackSpec.post enc Try.prog Try.f7 false true false false) := by
  refine returnsInHanded_of_change (C := Try.checked) own started (by kernel_rfl) Try.func7
    (ChangeSpec.witness6 (enc := enc) (C := Try.checked) false ⟨#[], #[.slice none 0 0], []⟩ 8 (by kernel_rfl) (by kernel_rfl) (by kernel_rfl) (by kernel_rfl)) ?_
  intro W base args ds gs before hval hW _ _
  exact contract H enc W base args ds gs before hval hW

theorem said : Rows.NotchBackSaid :=
  OpenClaim.holds_of_wide 7 Try.f7 rfl rfl rfl rfl rfl rfl rfl ⟨rfl, rfl, rfl, rfl, rfl⟩ rfl rfl rfl rfl rfl (by kernel_rfl) Try.func7 (by kernel_rfl)
    (of_decide_eq_true (by kernel_rfl)) (by unfold Func.isWrapper; first | (rw [if_pos (by decide +kernel)]; kernel_rfl) | (rw [if_neg (by decide +kernel)]; exact ⟨rfl, rfl⟩))
    (fun os started H enc _ => lifted os started H enc)
#print axioms said
end Go.Proofs.Ytmmlmcanjacngaa.notchBackProof
