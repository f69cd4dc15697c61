/-
chart.Put's deferred closure.
-/
import Derived.Test.YtljgiagdmnedpaaChartBoth
import Derived.Defers
import Derived.Recover
import Derived.Laws.Pointers
namespace Go.Proofs.Ytljgiagdmnedpaa.Tape_
open Go.RowKit Nat_ Frac_

theorem assert_nil (w : World) : (Instr.typeAssert .nilIface 20 24 true).run Try.prog w = .ok (.tuple #[.int .i64 0, .bool false]) w := by kernel_rfl
theorem assert_errno (w : World) : (Instr.typeAssert (.iface 24 (.int .i64 171)) 20 24 true).run Try.prog w = .ok (.tuple #[.int .i64 171, .bool true]) w := by kernel_rfl
set_option maxRecDepth 100000 in
theorem catch_idle (x j e : Addr) (w : World) :
    CallsD Try.prog 18 #[.pointer (some x), .pointer (some j), .pointer (some e)] .returning w fun e u' w' => e = .returned (.tuple #[]) ∧ u' = .returning ∧ w' = w := by
  refine callsD_of_wpS Try.func18 rfl fun c₀ cs hu => ?_
  apply wpS_seq
  apply wpS_region
  simp [wpOpsS, go_sem, recoverD, hu, assert_nil, Try.ntmps18, Exit.thenS]
  apply wpS_seq
  apply wpS_region
  simp [wpOpsS, go_sem, Exit.thenS, Act.eval, Array.replicate]
  refine wpS_cond (t := false) (by simp [Act.eval]) ?_
  simp only [Bool.false_eq_true, if_false]
  refine wpS_of_wp (wp_skip ?_)
  cases c₀
  simp_all [bodyPostS, results, Try.results18]
set_option maxRecDepth 100000 in
theorem catch_boom (x j e : Nat) (xv jv ev : Value) (w : World) (hx : Blk w x 3 [xv]) (hj : Blk w j 3 [jv]) (he : Blk w e 24 [ev]) (hxj : x ≠ j) (hxe : x ≠ e) (hje : j ≠ e) :
    CallsD Try.prog 18 #[.pointer (some ⟨x, 0, none⟩), .pointer (some ⟨j, 0, none⟩), .pointer (some ⟨e, 0, none⟩)] (.panicking boom) w fun en u' w' =>
      en = .returned (.tuple #[]) ∧ u' = .panicking [{ v := .iface 24 (.int .i64 171), recovered := true }] ∧ w' = ((w.setCell ⟨x, 0, none⟩ (.int .i64 0)).setCell ⟨j, 0, none⟩ (.int .i64 0)).setCell ⟨e, 0, none⟩ (.int .i64 171) := by
  have x0 := hx.cell 0
  have j0 := (hj.far (p := ⟨x, 0, none⟩) hxj.symm (.int .i64 0)).cell 0
  have e0 := ((he.far (p := ⟨x, 0, none⟩) hxe.symm (.int .i64 0)).far (p := ⟨j, 0, none⟩) hje.symm (.int .i64 0)).cell 0
  have fx := hx.frozen 0 (by simp)
  have fj := (hj.far (p := ⟨x, 0, none⟩) hxj.symm (.int .i64 0)).frozen 0 (by simp)
  have fe := ((he.far (p := ⟨x, 0, none⟩) hxe.symm (.int .i64 0)).far (p := ⟨j, 0, none⟩) hje.symm (.int .i64 0)).frozen 0 (by simp)
  simp only [List.getElem?_cons_zero] at x0 j0 e0
  refine callsD_of_wpS Try.func18 rfl fun c₀ cs hu => ?_
  apply wpS_seq
  apply wpS_region
  simp [wpOpsS, go_sem, recoverD, hu, boom, assert_errno, Try.ntmps18, Exit.thenS]
  apply wpS_seq
  apply wpS_region
  simp [wpOpsS, go_sem, Exit.thenS, Act.eval, Array.replicate]
  refine wpS_cond (t := true) (by simp [Act.eval]) ?_
  simp only [if_true]
  apply wpS_region
  simp [wpOpsS, go_sem, x0, j0, e0, fx, fj, fe, bodyPostS, results, Try.results18]
end Go.Proofs.Ytljgiagdmnedpaa.Tape_
