/-
Slices of the call's own: one more element, and the text of a row of bytes.
-/
import Derived.Test.YtljgiagdmnedpaaMem
namespace Go.Proofs.Ytljgiagdmnedpaa
open Go.RowKit

/-- append of one element that has just been laid in a block of its own. -/
theorem wpList_append_own1 {P : Program} {w : World} {ops : Array Oper} {rest : List Oper} {o : Oper} {a : Act} {Q : Exit → Act → World → Prop} (hgd : o.guard = none) (s x : Operand) (t : TypeId)
    (ho : o.op = .call { callee := .builtin .append, args := #[s, x], argTypes := #[t, t] })
    (base : Nat) (e : TypeId) (z : Value) (bytes : Nat) (ht : P.underlying t = some (.slice e)) (hinfo : (P.info? e).map (fun i => (i.zero, i.size, i.bytes)) = some (some z, 1, bytes)) (hzs : z.cells.size = 1)
    (v : Value) (n : Nat) (xs : List Value) (hs : a.eval s = v) (w0 : World) (u : Value) (hw : w = w0.alloc (.cells #[u] e)) (hown : w0.ownsRow base e 1 v n xs)
    (hx : a.eval x = .slice (some ⟨w0.heap.size, 0, none⟩) 1 1) (h1 : u.oneCell' = true)
    (h63 : n + 1 ≤ maxLen) (hbytes : (n + 1) * bytes ≤ 140737488355328) (hbase : base ≤ w0.heap.size)
    (h : ∀ v' w', w'.ownsRow base e 1 v' (n + 1) (xs ++ [u]) → Below base w0 w' → wpList P ops Q rest (a.put o.dst v') w') : wpList P ops Q (o :: rest) a w := by
  obtain ⟨i, hi, hz, hsz, hb⟩ := info_parts hinfo
  subst hw
  refine wpList_append_own (w0.alloc (.cells #[u] e)) hgd s x t ho base e i z 1 bytes ht hi hz hsz hb hzs (by decide) v n xs hs (hown.alloc _) ⟨w0.heap.size, 0, none⟩ 1 1 [u] hx rfl ?_ ?_ h63 hbytes (by simp; omega) ?_
  · intro j u' hj
    match j, hj with
    | 0, hj =>
      simp at hj
      subst hj
      simp [Addr.add]
  · intro u' hu'
    simp at hu'
    subst hu'
    exact h1
  · intro v' w' hown' hgr _
    refine h v' w' hown' ?_
    exact ((Below.refl base w0).alloc hbase _).grown hgr (by simp; omega) (fun k hk => (hown.lt k hk).1)

/-- string(b), b a row of bytes of the call's own. -/
theorem run_str_of_own {P : Program} {w : World} (src dst e : TypeId) (hs : P.underlying src = some (.slice e)) (he : P.underlying e = some (.int .u8)) (hd : P.underlying dst = some .string)
    (base n : Nat) (v : Value) (l : List UInt8) (hown : w.ownsRow base e 1 v n (bytesV l)) :
    (convert src dst v).run P w = .ok (.string ⟨l.toArray⟩) w := by
  have hl : l.length = n := by have := hown.1; rw [bytesV_length] at this; omega
  rcases hown.2 with ⟨rfl, rfl⟩ | ⟨g, cap, cur, rfl, _, hg, hnc, _, hcs, htake⟩
  · have : l = [] := List.eq_nil_of_length_eq_zero hl
    subst this
    exact run_convert_bytes_nil (P := P) w src e hs he 0 0 dst hd
  · refine run_str_of_blk src dst e hs he hd g 0 n cap l hl e cur.toList ⟨0, 0, by simpa using hg, .inl rfl⟩ ?_
    rw [List.drop_zero, ← htake, Nat.mul_one]
end Go.Proofs.Ytljgiagdmnedpaa
