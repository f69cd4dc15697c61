/-
tape: (*Maker).put, of a number's step and of another one. (Printed by gen_tapeput.py.)
-/
import Derived.Test.YtljgiagdmnedpaaTapeDef
import Derived.Test.YtljgiagdmnedpaaFracText
import Derived.Deep.RegionHeld3
import Derived.Deep.QuietTactic
import Derived.BigQuiet
import Derived.Deep.AppendLies
namespace Go.Proofs.Ytljgiagdmnedpaa.Tape_
open Go.RowKit Nat_ Frac_

/-- What a put comes to, and tells. -/
def PutE (w : World) (M : Nat) (F : Nat → Prop) (B pars : Nat) (L : List Key) (k : Key) (e : Ending) (w' : World) : Prop :=
  (∃ i L' F', put B L k = some (i, L') ∧ e = .returned (.tuple #[.int .i64 (i : Int), .int .i64 0]) ∧ Mkr w' M F' B pars L' ∧ Sp F w F' w') ∨
  (put B L k = none ∧ e = .returned (.tuple #[.int .i64 0, .int .i64 171]) ∧ Mkr w' M F B pars L ∧ Sp F w F w')
theorem info_node : (Try.prog.info? 49).map (fun i => (i.zero, i.size, i.bytes)) = some (some (.agg #[.int .u8 0, .int .i64 0, .int .i64 0, .bool false, .slice none 0 0, .slice none 0 0]), 6, 80) := by kernel_rfl
/-- append as a step of a region that draws: what it comes to is known. -/
theorem step_append_eq {P : Program} {ops : Array Oper} {o : Oper} {a : Act} {w : World} {K : Act → World → Prop} {Q : Exit → Act → World → Prop} {E : Prop} (hgd : o.guard = none) (s x : Operand) (t : TypeId)
    (ho : o.op = .call { callee := .builtin .append, args := #[s, x], argTypes := #[t, t] }) (v u r : Value) (w' : World) (hs : a.eval s = v) (hx : a.eval x = u)
    (hrun : (Builtin.append_ #[t, t] o.type #[v, u]).run P w = .ok r w') (h : K (a.put o.dst r) w') : if Region.wanted o (yielded ops a.tmps) = true then Oper.wp P o a w K Q else E := by
  have hw : Region.wanted o (yielded ops a.tmps) = true := by simp [Region.wanted, hgd]
  rw [if_pos hw]
  unfold Oper.wp execOp
  simp only [ho, resolve, invoke, builtin, Sem.run_bind, Sem.run_pure, Result.andThen_ok, List.map_toArray, List.map_cons, List.map_nil, hs, hx, hrun]
  exact h
theorem getOp {l : List Oper} {i : Nat} {o : Oper} (h : l[i]? = some o) : l.toArray[i]? = some o := by simpa using h
/-- All that a put looks at. -/
structure At (V : World) (M b : Nat) (v : Value) (xs : List Value) (B pars : Nat) (L : List Key) (G K6 : Nat) (nv kc : List Value) : Prop where
  mkr : Blk V M 46 [.int .i64 (B : Int), .int .i64 (pars : Int), v, .map (some b)]
  map : MapAt V b L
  row : V.ownsRow 0 49 6 v L.length xs
  node : Blk V G 49 nv
  key : Blk V K6 65 kc
theorem At.drewN {V : World} {M b : Nat} {v : Value} {xs : List Value} {B pars : Nat} {L : List Key} {G K6 : Nat} {nv kc : List Value} (h : At V M b v xs B pars L G K6 nv kc) (n : Nat) : At (V.drewN n) M b v xs B pars L G K6 nv kc :=
  ⟨h.mkr, h.map, h.row, h.node, h.key⟩
theorem At.drew {V : World} {M b : Nat} {v : Value} {xs : List Value} {B pars : Nat} {L : List Key} {G K6 : Nat} {nv kc : List Value} (h : At V M b v xs B pars L G K6 nv kc) : At V.drew M b v xs B pars L G K6 nv kc :=
  ⟨h.mkr, h.map, h.row, h.node, h.key⟩
set_option maxRecDepth 100000 in
set_option maxHeartbeats 4000000 in
theorem put_op (M : Nat) (F : Nat → Prop) (B pars : Nat) (L : List Key) (op x y : Nat) (w : World) (h : Mkr w M F B pars L) (hop : op ≠ 1) (hfit : Fits ⟨op, x, y, []⟩) :
    Calls Try.prog 13 #[.pointer (some ⟨M, 0, none⟩), .agg #[.int .u8 (op : Int), .int .i64 (x : Int), .int .i64 (y : Int), .bool false, .slice none 0 0, .slice none 0 0]] w (PutE w M F B pars L ⟨op, x, y, []⟩) := by
  obtain ⟨kk, hkk⟩ : ∃ kk : Key, ⟨op, x, y, []⟩ = kk := ⟨_, rfl⟩
  rw [hkk] at hfit ⊢
  have hkv : kv kk = .agg #[.int .u8 (op : Int), .int .i64 (x : Int), .int .i64 (y : Int), .string ⟨#[]⟩] := by rw [← hkk]; rfl
  have HB := Lib.hid h.bounds
  obtain ⟨b, v, xs, h1, h2, h3, h4, h5, h6, h7, h8, h9, h10, -⟩ := h
  obtain ⟨va, vc, rfl⟩ := row_slice h3
  obtain ⟨G, hG⟩ : ∃ G, w.heap.size = G := ⟨_, rfl⟩
  have HF := Lib.hid (And.intro h4 (And.intro h5 (And.intro h6 (And.intro h7 (And.intro h8 (And.intro h9 (And.intro h10 hG)))))))
  obtain ⟨W, hW⟩ : ∃ W, ((w.alloc (.cells #[.int .u8 (op : Int), .int .i64 (x : Int), .int .i64 (y : Int), .bool false, .slice none 0 0, .slice none 0 0] 49)).alloc (.cells #[.int .u8 (op : Int), .int .i64 (x : Int), .int .i64 (y : Int), .string ⟨#[]⟩] 65)) = W := ⟨_, rfl⟩
  have hbw : Below w.heap.size w W := by rw [← hW]; exact ((Below.refl w.heap.size w).alloc (Nat.le_refl _) _).alloc (by simp) _
  have hat : At W M b (.slice va L.length vc) xs B pars L G (G + 1) [.int .u8 (op : Int), .int .i64 (x : Int), .int .i64 (y : Int), .bool false, .slice none 0 0, .slice none 0 0] [.int .u8 (op : Int), .int .i64 (x : Int), .int .i64 (y : Int), .string ⟨#[]⟩] := by
    rw [← hW]
    exact ⟨(h1.alloc _).alloc _, h2.of_same (by rw [hW]; exact hbw.block b h2.lt), (h3.alloc _).alloc _, (blk_new _ _ [_, _, _, _, _, _] _ hG).alloc _, blk_new _ _ [_, _, _, _] _ (by simp [hG])⟩
  have HW := Lib.hid hW
  have HBW := Lib.hid hbw
  have HKV := Lib.hid hkv
  have HFit := Lib.hid hfit
  have hop' : ¬ ((op : Int) = 1) := by omega
  clear hW h1 h2 h3 h4 h5 h6 h7 h8 h9 h10 hbw hkv hkk hfit hop
  go_enter Try.func13, Try.ntmps13
  go_wp2_with fail
  rw [HW.out]
  clear HW
  -- the look-up
  have HAt := Lib.hid hat
  have hA := fun n => hat.drewN n
  have c0 := hat.mkr.cell 0
  have c2 := hat.mkr.cell 2
  have c3 := hat.mkr.cell 3
  have e0 := hat.key.cell 0
  have e1 := hat.key.cell 1
  have e2 := hat.key.cell 2
  have e3 := hat.key.cell 3
  simp only [List.getElem?_cons_zero, List.getElem?_cons_succ] at c0 c2 c3 e0 e1 e2 e3
  by_cases hin : kk ∈ L
  · have hl : ∀ n, (Instr.lookup 43 (.map (some b)) (.agg #[.int .u8 (op : Int), .int .i64 (x : Int), .int .i64 (y : Int), .string ⟨#[]⟩]) true).run Try.prog (W.drewN n) = .ok (.tuple #[.int .i64 ((L.idxOf kk : Nat) : Int), .bool true]) (W.drewN n) := fun n => by
      rw [← HKV.out]; exact lookup_hit (hA n).map hin
    clear hat
    have hput : put B L kk = some (L.idxOf kk, L) := by unfold put; rw [if_pos hin]
    have HP := Lib.hid hput
    clear hput hin hA
    generalize List.idxOf kk L = ix at *
    go_wp2_with fail
    go_quiet (fail)
    go_wp2_with fail
    go_ret2
    refine .inl ⟨ix, L, F, HP.out, rfl, ?_, ?_⟩
    · exact ⟨b, .slice va L.length vc, xs, HAt.out.mkr, HAt.out.map, HAt.out.row, HF.out.1, HF.out.2.1, HF.out.2.2.1, HF.out.2.2.2.1, HF.out.2.2.2.2.1, HF.out.2.2.2.2.2.1, fun k hk => Nat.lt_of_lt_of_le (HF.out.2.2.2.2.2.2.1 k hk) HBW.out.size, HB.out⟩
    · exact Sp.of_below ⟨HBW.out.os, HBW.out.tape, HBW.out.output, HBW.out.size, HBW.out.block⟩
  · have hl : ∀ n, (Instr.lookup 43 (.map (some b)) (.agg #[.int .u8 (op : Int), .int .i64 (x : Int), .int .i64 (y : Int), .string ⟨#[]⟩]) true).run Try.prog (W.drewN n) = .ok (.tuple #[.int .i64 0, .bool false]) (W.drewN n) := fun n => by
      rw [← HKV.out]; exact lookup_miss (hA n).map HFit.out hin
    clear hat
    have HIN := Lib.hid hin
    go_wp2_with fail
    go_quiet (fail)
    obtain ⟨W1, hW1⟩ : ∃ W1, W.drewN nq = W1 := ⟨_, rfl⟩
    have hat1 := hA nq
    have hbw1 : Below w.heap.size w W1 := by rw [← hW1]; exact ⟨HBW.out.os, HBW.out.tape, HBW.out.output, HBW.out.size, HBW.out.block⟩
    rw [hW1] at hat1 ⊢
    clear hW1 hA hl c0 c2 c3 e0 e1 e2 e3
    have HAt1 := Lib.hid hat1
    have c0 := hat1.mkr.cell 0
    have c2 := hat1.mkr.cell 2
    simp only [List.getElem?_cons_zero, List.getElem?_cons_succ] at c0 c2
    have HB1 := Lib.hid hbw1
    have hA := fun n => hat1.drewN n
    by_cases hroom : L.length < B
    · have hput : put B L kk = some (L.length, L ++ [kk]) := by unfold put; rw [if_neg hin, if_pos hroom]
      have HP := Lib.hid (And.intro hput hroom)
      have hgeq : ¬ ((B : Int) ≤ (L.length : Int)) := by omega
      have hgn : ¬ (B ≤ L.length) := by omega
      clear hput hin hbw1 hat1
      go_wp2_with fail
      go_quiet (fail)
      obtain ⟨W2, hW2⟩ : ∃ W2, W1.drewN nq = W2 := ⟨_, rfl⟩
      have hat2 := hA nq
      have hbw2 : Below w.heap.size w W2 := by rw [← hW2]; exact ⟨HB1.out.os, HB1.out.tape, HB1.out.output, HB1.out.size, HB1.out.block⟩
      rw [hW2] at hat2 ⊢
      clear hW2 hA c0 c2
      have hMb := HF.out.1
      have hvM := HF.out.2.1
      have hvb := HF.out.2.2.1
      have hMlt : M < W2.heap.size := hat2.mkr.lt
      have hblt : b < W2.heap.size := hat2.map.lt
      have hGlt : G < W2.heap.size := hat2.node.lt
      have hKlt : G + 1 < W2.heap.size := hat2.key.lt
      have hvlt : ∀ k, (Value.slice va L.length vc).ownBlock = some k → k < w.heap.size := fun k hk => HF.out.2.2.2.2.2.2.1 k (HF.out.2.2.2.2.2.1 k hk)
      have hwG := HF.out.2.2.2.2.2.2.2
      -- append
      obtain ⟨inf, hi1, hi2, hi3, hi4⟩ := info_parts info_node
      have hrow3 : ((W2.alloc (.cells #[.int .u8 (op : Int), .int .i64 (x : Int), .int .i64 (y : Int), .bool false, .slice none 0 0, .slice none 0 0] 49)).drew).ownsRow 0 49 6 (.slice va L.length vc) L.length xs := World.ownsRow.alloc (w := W2) hat2.row _
      have hnew := World.news_of_block (w := (W2.alloc (.cells #[.int .u8 (op : Int), .int .i64 (x : Int), .int .i64 (y : Int), .bool false, .slice none 0 0, .slice none 0 0] 49)).drew) (B := W2.heap.size) (cs := #[.int .u8 (op : Int), .int .i64 (x : Int), .int .i64 (y : Int), .bool false, .slice none 0 0, .slice none 0 0]) (heap_alloc_new W2 _)
      obtain ⟨g, gc, w5, hrun, hrow5, hgr5, hat5, hlt5⟩ := run_append_lies (P := Try.prog) ((W2.alloc (.cells #[.int .u8 (op : Int), .int .i64 (x : Int), .int .i64 (y : Int), .bool false, .slice none 0 0, .slice none 0 0] 49)).drew) 44 44 0 49 inf _ 6 80 Try.underlying44 hi1 hi2 hi3 hi4 rfl (by decide) _ L.length xs hrow3 ⟨W2.heap.size, 0, none⟩ 1 1 [.int .u8 (op : Int), .int .i64 (x : Int), .int .i64 (y : Int), .bool false, .slice none 0 0, .slice none 0 0] rfl hnew (by simp [Value.oneCell', *]) (by decide) (by have := HB.out; unfold maxLen; omega) (by have := HB.out; omega) (Nat.zero_le _) _ rfl
      have hsz3 : ((W2.alloc (.cells #[.int .u8 (op : Int), .int .i64 (x : Int), .int .i64 (y : Int), .bool false, .slice none 0 0, .slice none 0 0] 49)).drew).heap.size = W2.heap.size + 1 := by simp
      have hgM : M ≠ g := by
        rcases hat5 with h | h
        · rintro rfl; exact hvM h
        · omega
      have hgb : b ≠ g := by
        rcases hat5 with h | h
        · rintro rfl; exact hvb h
        · omega
      -- blocks behind it
      have hold5 : ∀ k, k < W2.heap.size → some k ≠ (Value.slice va L.length vc).ownBlock → w5.heap[k]? = W2.heap[k]? := fun k hk hne =>
        (hgr5.block k (by omega) hne).trans (Below.heap_alloc W2 _ k hk)
      have hG5 : some G ≠ (Value.slice va L.length vc).ownBlock := fun h => by have := hvlt G h.symm; omega
      have hK5 : some (G + 1) ≠ (Value.slice va L.length vc).ownBlock := fun h => by have := hvlt (G + 1) h.symm; omega
      have hmk5 := hat2.mkr.of_same (hold5 M hMlt (fun h => hvM h.symm))
      have hmp5 := hat2.map.of_same (hold5 b hblt (fun h => hvb h.symm))
      have hnd5 := hat2.node.of_same (hold5 G hGlt hG5)
      have hky5 := hat2.key.of_same (hold5 (G + 1) hKlt hK5)
      have hMG : M ≠ G := fun h => by have := HF.out.2.2.2.2.2.2.1 M HF.out.2.2.2.1; omega
      have hMK : M ≠ G + 1 := fun h => by have := HF.out.2.2.2.2.2.2.1 M HF.out.2.2.2.1; omega
      have hbG : b ≠ G := fun h => by have := HF.out.2.2.2.2.2.2.1 b HF.out.2.2.2.2.1; omega
      have hbK : b ≠ G + 1 := fun h => by have := HF.out.2.2.2.2.2.2.1 b HF.out.2.2.2.2.1; omega
      obtain ⟨nv', hnv'⟩ : ∃ nv', Value.slice (some ⟨g, 0, none⟩) (L.length + 1) gc = nv' := ⟨_, rfl⟩
      have hmk6 := hmk5.set_ 2 nv'
      have hmp6 : MapAt (w5.setCell ⟨M, 2, none⟩ nv') b L := hmp5.of_same (Below.heap_setCell w5 _ _ b (fun h => hMb h.symm))
      have hnd6 := hnd5.far (p := ⟨M, 2, none⟩) (fun h => hMG h.symm) nv'
      have hky6 := hky5.far (p := ⟨M, 2, none⟩) (fun h => hMK h.symm) nv'
      obtain ⟨st, w7, w8, hme, hes, hmp8, hgr8⟩ := entry_new hmp6 HFit.out HIN.out
      have hs7 : ∀ k, k ≠ b → w7.heap[k]? = (w5.setCell ⟨M, 2, none⟩ nv').heap[k]? := entry_old hmp6 hme HFit.out HIN.out
      have hmk8 := hmk6.grown hgr8 (by intro h; exact hMb (Option.some.inj h))
      have hnd8 := hnd6.grown hgr8 (by intro h; exact hbG (Option.some.inj h).symm)
      have hky8 := hky6.grown hgr8 (by intro h; exact hbK (Option.some.inj h).symm)
      have hmk7 := hmk6.of_same (hs7 M hMb)
      have hnd7 := hnd6.of_same (hs7 G (fun h => hbG h.symm))
      have hky7 := hky6.of_same (hs7 (G + 1) (fun h => hbK h.symm))
      rw [HKV.out] at hme
      -- what the region reads
      have FS := Lib.hid (fun (V : World) (p0 p1 p2 : Value) (q1 : Blk V M 46 [p0, p1, p2, .map (some b)]) (q2 : Blk V G 49 [.int .u8 (op : Int), .int .i64 (x : Int), .int .i64 (y : Int), .bool false, .slice none 0 0, .slice none 0 0]) (q3 : Blk V (G + 1) 65 [.int .u8 (op : Int), .int .i64 (x : Int), .int .i64 (y : Int), .string ⟨#[]⟩]) =>
        (show V.cell? ⟨M, 3, none⟩ = some (.map (some b)) ∧ V.cell? ⟨G + 1, 0, none⟩ = some (.int .u8 (op : Int)) ∧ V.cell? ⟨G + 1, 1, none⟩ = some (.int .i64 (x : Int)) ∧ V.cell? ⟨G + 1, 2, none⟩ = some (.int .i64 (y : Int)) ∧ V.cell? ⟨G + 1, 3, none⟩ = some (.string ⟨#[]⟩) ∧ V.cell? ⟨G, 0, none⟩ = some (.int .u8 (op : Int)) ∧ V.cell? ⟨G, 1, none⟩ = some (.int .i64 (x : Int)) ∧ V.cell? ⟨G, 2, none⟩ = some (.int .i64 (y : Int)) ∧ V.cell? ⟨G, 3, none⟩ = some (.bool false) ∧ V.cell? ⟨G, 4, none⟩ = some (.slice none 0 0) ∧ V.cell? ⟨G, 5, none⟩ = some (.slice none 0 0) from
          ⟨q1.cell 3, q3.cell 0, q3.cell 1, q3.cell 2, q3.cell 3, q2.cell 0, q2.cell 1, q2.cell 2, q2.cell 3, q2.cell 4, q2.cell 5⟩))
      have S2 := Lib.hid (FS.out W2.drew _ _ _ hat2.mkr hat2.node hat2.key)
      have S3 := Lib.hid (FS.out ((W2.alloc (.cells #[.int .u8 (op : Int), .int .i64 (x : Int), .int .i64 (y : Int), .bool false, .slice none 0 0, .slice none 0 0] 49)).drew) _ _ _ (hat2.mkr.alloc _) (hat2.node.alloc _) (hat2.key.alloc _))
      have S5 := Lib.hid (FS.out w5 _ _ _ hmk5 hnd5 hky5)
      have S6 := Lib.hid (FS.out (w5.setCell ⟨M, 2, none⟩ nv') _ _ _ hmk6 hnd6 hky6)
      have S7 := Lib.hid (FS.out w7 _ _ _ hmk7 hnd7 hky7)
      have S8 := Lib.hid (FS.out w8 _ _ _ hmk8 hnd8 hky8)
      have d2 := hat2.mkr.cell 2
      have d3 := (hat2.mkr.alloc (.cells #[.int .u8 (op : Int), .int .i64 (x : Int), .int .i64 (y : Int), .bool false, .slice none 0 0, .slice none 0 0] 49)).cell 2
      have f5 := hmk5.frozen 2 (by simp)
      have d5 := hmk5.cell 2
      simp only [List.getElem?_cons_zero, List.getElem?_cons_succ] at d2 d3 d5
      -- what is left
      have hbw8 : ∀ k, k < w.heap.size → ¬ F k → w8.heap[k]? = w.heap[k]? := fun k hk hn => by
        have hk2 : k < W2.heap.size := Nat.lt_of_lt_of_le hk hbw2.size
        have e1 : k ≠ b := fun h => hn (h ▸ HF.out.2.2.2.2.1)
        have e2 : k ≠ M := fun h => hn (h ▸ HF.out.2.2.2.1)
        have e3 : some k ≠ (Value.slice va L.length vc).ownBlock := fun h => hn (HF.out.2.2.2.2.2.1 k h.symm)
        have hk6 : k < (w5.setCell ⟨M, 2, none⟩ nv').heap.size := by rw [World.size_setCell]; exact Nat.lt_of_lt_of_le (by omega) hgr5.size
        exact (hgr8.block k hk6 (fun h => e1 (Option.some.inj h))).trans ((Below.heap_setCell w5 _ _ k e2).trans ((hold5 k hk2 e3).trans (hbw2.block k hk)))
      have hsz8 : w5.heap.size ≤ w8.heap.size := by
        have := hgr8.size
        rw [World.size_setCell] at this
        exact this
      have hsz5 : W2.heap.size + 1 ≤ w5.heap.size := by rw [← hsz3]; exact hgr5.size
      have hrow8 : w8.ownsRow 0 49 6 nv' (L.length + 1) (xs ++ [.int .u8 (op : Int), .int .i64 (x : Int), .int .i64 (y : Int), .bool false, .slice none 0 0, .slice none 0 0]) := by
        rw [hnv'] at hrow5
        have hob : nv'.ownBlock = some g := by rw [← hnv']; rfl
        exact (hrow5.kept (grown_set w5 M 2 nv') (.inr (by rw [hob]; exact fun h => hgM (Option.some.inj h).symm))).kept hgr8 (.inr (by rw [hob]; exact fun h => hgb (Option.some.inj h).symm))
      have hM8 : Mkr w8 M (fun k => F k ∨ k = g) B pars (L ++ [kk]) := by
        have hob : nv'.ownBlock = some g := by rw [← hnv']; rfl
        have hlen : (L ++ [kk]).length = L.length + 1 := by simp
        refine ⟨b, nv', _, hmk8, hmp8, by rw [hlen]; exact hrow8, hMb, by rw [hob]; exact fun h => hgM (Option.some.inj h).symm, by rw [hob]; exact fun h => hgb (Option.some.inj h).symm, .inl HF.out.2.2.2.1, .inl HF.out.2.2.2.2.1, fun k hk => ?_, fun k hk => ?_, by rw [hlen]; exact HP.out.2, HB.out.2⟩
        · rw [hob] at hk
          exact .inr (Option.some.inj hk).symm
        · rcases hk with hk | hk
          · have := HF.out.2.2.2.2.2.2.1 k hk
            have := hbw2.size
            omega
          · omega
      have hsp8 : Sp F w (fun k => F k ∨ k = g) w8 := by
        refine ⟨?_, ?_, ?_, ?_, hbw8, ?_⟩
        · exact hgr8.os.trans (hgr5.os.trans hbw2.os)
        · exact hgr8.tape.trans (hgr5.tape.trans hbw2.tape)
        · exact hgr8.output.trans (hgr5.output.trans hbw2.output)
        · have := hbw2.size
          omega
        · intro k hk
          rcases hk with hk | hk
          · exact .inl hk
          · rcases hat5 with h | h
            · exact .inl (by rw [hk]; exact HF.out.2.2.2.2.2.1 g h)
            · right
              have := hbw2.size
              omega
      have HEND := Lib.hid (And.intro hM8 hsp8)
      rw [hnv'] at hrun
      clear hM8 hsp8 hrow8 hbw8 hmk8 hnd8 hky8 hmk7 hnd7 hky7 hs7 hmk6 hnd6 hky6 hmp6 hmk5 hnd5 hky5 hmp5 hold5 hgr5 hgr8 hmp8 hrow5 hat5 hnew hrow3 hsz3 hsz5 hsz8 hbw2 hat2 hvlt hG5 hK5 hMG hMK hbG hbK hMlt hblt hGlt hKlt hlt5 hwG hi1 hi2 hi3 hi4
      have HR := Lib.hid hrun
      clear hrun
      subst hnv'

      go_wp2_with fail
      refine wp_region_noPanic ?_
      refine wp_region_held_drew (S := fun V => V.cell? ⟨M, 3, none⟩ = some (.map (some b)) ∧ V.cell? ⟨G + 1, 0, none⟩ = some (.int .u8 (op : Int)) ∧ V.cell? ⟨G + 1, 1, none⟩ = some (.int .i64 (x : Int)) ∧ V.cell? ⟨G + 1, 2, none⟩ = some (.int .i64 (y : Int)) ∧ V.cell? ⟨G + 1, 3, none⟩ = some (.string ⟨#[]⟩) ∧ V.cell? ⟨G, 0, none⟩ = some (.int .u8 (op : Int)) ∧ V.cell? ⟨G, 1, none⟩ = some (.int .i64 (x : Int)) ∧ V.cell? ⟨G, 2, none⟩ = some (.int .i64 (y : Int)) ∧ V.cell? ⟨G, 3, none⟩ = some (.bool false) ∧ V.cell? ⟨G, 4, none⟩ = some (.slice none 0 0) ∧ V.cell? ⟨G, 5, none⟩ = some (.slice none 0 0)) (by kernel_rfl) S2.out (fun hHeld => ?_)
      refine wpAnyH_take (i := 0) (v := ?v0) (getOp rfl) (by kernel_rfl) (by kernel_rfl) (by kernel_rfl) (fun _ _ _ h => h) (Or.inl ⟨?hw0, ?hy0⟩) hHeld ?rest0
      case hw0 => rfl
      case hy0 =>
        intro V hSV
        go_simp
        with_reducible rfl
      simp only [Act.put, List.setIfInBounds_toArray, List.set_cons_zero, List.set_cons_succ]
      refine wpAnyH_take (i := 1) (v := ?v1) (getOp rfl) (by kernel_rfl) (by kernel_rfl) (by kernel_rfl) (fun _ _ _ h => h) (Or.inl ⟨?hw1, ?hy1⟩) hHeld ?rest1
      case hw1 => rfl
      case hy1 =>
        intro V hSV
        go_simp
        with_reducible rfl
      simp only [Act.put, List.setIfInBounds_toArray, List.set_cons_zero, List.set_cons_succ]
      refine wpAnyH_take (i := 2) (v := ?v2) (getOp rfl) (by kernel_rfl) (by kernel_rfl) (by kernel_rfl) (fun _ _ _ h => h) (Or.inl ⟨?hw2, ?hy2⟩) hHeld ?rest2
      case hw2 => rfl
      case hy2 =>
        intro V hSV
        go_simp
        with_reducible rfl
      simp only [Act.put, List.setIfInBounds_toArray, List.set_cons_zero, List.set_cons_succ]
      refine wpAnyH_take (i := 3) (v := ?v3) (getOp rfl) (by kernel_rfl) (by kernel_rfl) (by kernel_rfl) (fun _ _ _ h => h) (Or.inl ⟨?hw3, ?hy3⟩) hHeld ?rest3
      case hw3 => rfl
      case hy3 =>
        intro V hSV
        go_simp
        with_reducible rfl
      simp only [Act.put, List.setIfInBounds_toArray, List.set_cons_zero, List.set_cons_succ]
      refine wpAnyH_take (i := 4) (v := ?v4) (getOp rfl) (by kernel_rfl) (by kernel_rfl) (by kernel_rfl) (fun _ _ _ h => h) (Or.inl ⟨?hw4, ?hy4⟩) hHeld ?rest4
      case hw4 => rfl
      case hy4 =>
        intro V hSV
        go_simp
        with_reducible rfl
      simp only [Act.put, List.setIfInBounds_toArray, List.set_cons_zero, List.set_cons_succ]
      refine wpAnyH_take (i := 5) (v := ?v5) (getOp rfl) (by kernel_rfl) (by kernel_rfl) (by kernel_rfl) (fun _ _ _ h => h) (Or.inl ⟨?hw5, ?hy5⟩) hHeld ?rest5
      case hw5 => rfl
      case hy5 =>
        intro V hSV
        go_simp
        with_reducible rfl
      simp only [Act.put, List.setIfInBounds_toArray, List.set_cons_zero, List.set_cons_succ]
      refine wpAnyH_take (i := 6) (v := ?v6) (getOp rfl) (by kernel_rfl) (by kernel_rfl) (by kernel_rfl) (fun _ _ _ h => h) (Or.inl ⟨?hw6, ?hy6⟩) hHeld ?rest6
      case hw6 => rfl
      case hy6 =>
        intro V hSV
        go_simp
        with_reducible rfl
      simp only [Act.put, List.setIfInBounds_toArray, List.set_cons_zero, List.set_cons_succ]
      refine wpAnyH_take (i := 7) (v := ?v7) (getOp rfl) (by kernel_rfl) (by kernel_rfl) (by kernel_rfl) (fun _ _ _ h => h) (Or.inl ⟨?hw7, ?hy7⟩) hHeld ?rest7
      case hw7 => rfl
      case hy7 =>
        intro V hSV
        go_simp
        with_reducible rfl
      simp only [Act.put, List.setIfInBounds_toArray, List.set_cons_zero, List.set_cons_succ]
      refine wpAnyH_take (i := 8) (v := ?v8) (getOp rfl) (by kernel_rfl) (by kernel_rfl) (by kernel_rfl) (fun _ _ _ h => h) (Or.inl ⟨?hw8, ?hy8⟩) hHeld ?rest8
      case hw8 => rfl
      case hy8 =>
        intro V hSV
        go_simp
        with_reducible rfl
      simp only [Act.put, List.setIfInBounds_toArray, List.set_cons_zero, List.set_cons_succ]
      refine wpAnyH_take (i := 10) (v := ?v10) (getOp rfl) (by kernel_rfl) (by kernel_rfl) (by kernel_rfl) (fun _ _ _ h => h) (Or.inl ⟨?hw10, ?hy10⟩) hHeld ?rest10
      case hw10 => rfl
      case hy10 =>
        intro V hSV
        go_simp
        with_reducible rfl
      simp only [Act.put, List.setIfInBounds_toArray, List.set_cons_zero, List.set_cons_succ]
      refine wpAnyH_take (i := 13) (v := ?v13) (getOp rfl) (by kernel_rfl) (by kernel_rfl) (by kernel_rfl) (fun _ _ _ h => h) (Or.inl ⟨?hw13, ?hy13⟩) hHeld ?rest13
      case hw13 => rfl
      case hy13 =>
        intro V hSV
        go_simp
        with_reducible rfl
      simp only [Act.put, List.setIfInBounds_toArray, List.set_cons_zero, List.set_cons_succ]
      refine wpAnyH_ready (rs := [9, 11]) (by kernel_rfl) (by simp) ?_
      refine AllReadyH.cons (getOp rfl) (fun K hK => ?_) (AllReadyH.cons (getOp rfl) (fun K hK => ?_) AllReadyH.nil)
      · go_simp
        refine hK.out _ _ S2.out (fun hHeld => ?_)
        clear hK K
        try simp only [Act.put, List.setIfInBounds_toArray, List.set_cons_zero, List.set_cons_succ]
        refine wpAnyH_ready (rs := [11]) (by kernel_rfl) (by simp) ?_
        refine AllReadyH.cons (getOp rfl) (fun K hK => ?_) AllReadyH.nil
        go_simp
        refine hK.out _ _ S3.out (fun hHeld => ?_)
        clear hK K
        try simp only [Act.put, List.setIfInBounds_toArray, List.set_cons_zero, List.set_cons_succ]
        refine wpAnyH_ready (rs := [12]) (by kernel_rfl) (by simp) ?_
        refine AllReadyH.cons (getOp rfl) (fun K hK => ?_) AllReadyH.nil
        refine step_append_eq rfl _ _ 44 rfl _ _ _ _ rfl rfl HR.out ?_
        refine hK.out _ _ S5.out (fun hHeld => ?_)
        clear hK K
        try simp only [Act.put, List.setIfInBounds_toArray, List.set_cons_zero, List.set_cons_succ]
        refine wpAnyH_take (i := 14) (v := ?vxa) (getOp rfl) (by kernel_rfl) (by kernel_rfl) (by kernel_rfl) (fun _ _ _ h => h) (Or.inl ⟨?hwxa, ?hyxa⟩) hHeld ?restxa
        case hwxa => rfl
        case hyxa =>
          intro V hSV
          go_simp
          with_reducible rfl
        try simp only [Act.put, List.setIfInBounds_toArray, List.set_cons_zero, List.set_cons_succ]
        refine wpAnyH_take (i := 15) (v := ?vxb) (getOp rfl) (by kernel_rfl) (by kernel_rfl) (by kernel_rfl) (fun _ _ _ h => h) (Or.inl ⟨?hwxb, ?hyxb⟩) hHeld ?restxb
        case hwxb => rfl
        case hyxb =>
          intro V hSV
          go_simp
          with_reducible rfl
        try simp only [Act.put, List.setIfInBounds_toArray, List.set_cons_zero, List.set_cons_succ]
        refine wpAnyH_ready (rs := [16]) (by kernel_rfl) (by simp) ?_
        refine AllReadyH.cons (getOp rfl) (fun K hK => ?_) AllReadyH.nil
        go_simp
        refine hK.out _ _ S6.out (fun hHeld => ?_)
        clear hK K
        try simp only [Act.put, List.setIfInBounds_toArray, List.set_cons_zero, List.set_cons_succ]
        refine wpAnyH_ready (rs := [17]) (by kernel_rfl) (by simp) ?_
        refine AllReadyH.cons (getOp rfl) (fun K hK => ?_) AllReadyH.nil
        go_simp
        refine hK.out _ _ S7.out (fun hHeld => ?_)
        clear hK K
        try simp only [Act.put, List.setIfInBounds_toArray, List.set_cons_zero, List.set_cons_succ]
        refine wpAnyH_take (i := 18) (v := ?vxc) (getOp rfl) (by kernel_rfl) (by kernel_rfl) (by kernel_rfl) (fun _ _ _ h => h) (Or.inl ⟨?hwxc, ?hyxc⟩) hHeld ?restxc
        case hwxc => rfl
        case hyxc =>
          intro V hSV
          go_simp
          with_reducible rfl
        try simp only [Act.put, List.setIfInBounds_toArray, List.set_cons_zero, List.set_cons_succ]
        refine wpAnyH_ready (rs := [19]) (by kernel_rfl) (by simp) ?_
        refine AllReadyH.cons (getOp rfl) (fun K hK => ?_) AllReadyH.nil
        go_simp
        refine hK.out _ _ S8.out (fun hHeld => ?_)
        clear hK K
        refine wpAnyH_done (by kernel_rfl) ?_ _
        refine NoPanic.normal ?_
        go_wp2_with fail
        go_ret2
        exact .inl ⟨L.length, L ++ [kk], _, HP.out.1, rfl, HEND.out⟩
      · go_simp
        refine hK.out _ _ S3.out (fun hHeld => ?_)
        clear hK K
        try simp only [Act.put, List.setIfInBounds_toArray, List.set_cons_zero, List.set_cons_succ]
        refine wpAnyH_ready (rs := [9]) (by kernel_rfl) (by simp) ?_
        refine AllReadyH.cons (getOp rfl) (fun K hK => ?_) AllReadyH.nil
        go_simp
        refine hK.out _ _ S3.out (fun hHeld => ?_)
        clear hK K
        try simp only [Act.put, List.setIfInBounds_toArray, List.set_cons_zero, List.set_cons_succ]
        refine wpAnyH_ready (rs := [12]) (by kernel_rfl) (by simp) ?_
        refine AllReadyH.cons (getOp rfl) (fun K hK => ?_) AllReadyH.nil
        refine step_append_eq rfl _ _ 44 rfl _ _ _ _ rfl rfl HR.out ?_
        refine hK.out _ _ S5.out (fun hHeld => ?_)
        clear hK K
        try simp only [Act.put, List.setIfInBounds_toArray, List.set_cons_zero, List.set_cons_succ]
        refine wpAnyH_take (i := 14) (v := ?vya) (getOp rfl) (by kernel_rfl) (by kernel_rfl) (by kernel_rfl) (fun _ _ _ h => h) (Or.inl ⟨?hwya, ?hyya⟩) hHeld ?restya
        case hwya => rfl
        case hyya =>
          intro V hSV
          go_simp
          with_reducible rfl
        try simp only [Act.put, List.setIfInBounds_toArray, List.set_cons_zero, List.set_cons_succ]
        refine wpAnyH_take (i := 15) (v := ?vyb) (getOp rfl) (by kernel_rfl) (by kernel_rfl) (by kernel_rfl) (fun _ _ _ h => h) (Or.inl ⟨?hwyb, ?hyyb⟩) hHeld ?restyb
        case hwyb => rfl
        case hyyb =>
          intro V hSV
          go_simp
          with_reducible rfl
        try simp only [Act.put, List.setIfInBounds_toArray, List.set_cons_zero, List.set_cons_succ]
        refine wpAnyH_ready (rs := [16]) (by kernel_rfl) (by simp) ?_
        refine AllReadyH.cons (getOp rfl) (fun K hK => ?_) AllReadyH.nil
        go_simp
        refine hK.out _ _ S6.out (fun hHeld => ?_)
        clear hK K
        try simp only [Act.put, List.setIfInBounds_toArray, List.set_cons_zero, List.set_cons_succ]
        refine wpAnyH_ready (rs := [17]) (by kernel_rfl) (by simp) ?_
        refine AllReadyH.cons (getOp rfl) (fun K hK => ?_) AllReadyH.nil
        go_simp
        refine hK.out _ _ S7.out (fun hHeld => ?_)
        clear hK K
        try simp only [Act.put, List.setIfInBounds_toArray, List.set_cons_zero, List.set_cons_succ]
        refine wpAnyH_take (i := 18) (v := ?vyc) (getOp rfl) (by kernel_rfl) (by kernel_rfl) (by kernel_rfl) (fun _ _ _ h => h) (Or.inl ⟨?hwyc, ?hyyc⟩) hHeld ?restyc
        case hwyc => rfl
        case hyyc =>
          intro V hSV
          go_simp
          with_reducible rfl
        try simp only [Act.put, List.setIfInBounds_toArray, List.set_cons_zero, List.set_cons_succ]
        refine wpAnyH_ready (rs := [19]) (by kernel_rfl) (by simp) ?_
        refine AllReadyH.cons (getOp rfl) (fun K hK => ?_) AllReadyH.nil
        go_simp
        refine hK.out _ _ S8.out (fun hHeld => ?_)
        clear hK K
        refine wpAnyH_done (by kernel_rfl) ?_ _
        refine NoPanic.normal ?_
        go_wp2_with fail
        go_ret2
        exact .inl ⟨L.length, L ++ [kk], _, HP.out.1, rfl, HEND.out⟩
    · have hput : put B L kk = none := by unfold put; rw [if_neg hin, if_neg hroom]
      have HP := Lib.hid hput
      have hgeq : (B : Int) ≤ (L.length : Int) := by omega
      clear hput hin hroom hbw1 hat1 hA
      go_wp2_with fail
      go_quiet (fail)
      go_wp2_with fail
      go_ret2
      refine .inr ⟨HP.out, rfl, ?_, ?_⟩
      · exact ⟨b, .slice va L.length vc, xs, HAt1.out.mkr, HAt1.out.map, HAt1.out.row, HF.out.1, HF.out.2.1, HF.out.2.2.1, HF.out.2.2.2.1, HF.out.2.2.2.2.1, HF.out.2.2.2.2.2.1, fun k hk => Nat.lt_of_lt_of_le (HF.out.2.2.2.2.2.2.1 k hk) HB1.out.size, HB.out⟩
      · exact Sp.of_below ⟨HB1.out.os, HB1.out.tape, HB1.out.output, HB1.out.size, HB1.out.block⟩
set_option maxRecDepth 100000 in
set_option maxHeartbeats 4000000 in
theorem put_num (M : Nat) (F : Nat → Prop) (B pars : Nat) (L : List Key) (sg : Bool) (m d : Value) (N D : Nat) (w : World) (h : Mkr w M F B pars L) (hm : Nm w m N) (hd : Nm w d D) (hN : N < Lim) (hD : D < Lim) (h0 : D ≠ 0) (hfit : Fits ⟨1, 0, 0, fracT (zneg sg (fn N D)) (fn N D) (fd N D)⟩) :
    Calls Try.prog 13 #[.pointer (some ⟨M, 0, none⟩), .agg #[.int .u8 1, .int .i64 0, .int .i64 0, .bool sg, m, d]] w (PutE w M F B pars L ⟨1, 0, 0, fracT (zneg sg (fn N D)) (fn N D) (fd N D)⟩) := by
  obtain ⟨kk, hkk⟩ : ∃ kk : Key, ⟨1, 0, 0, fracT (zneg sg (fn N D)) (fn N D) (fd N D)⟩ = kk := ⟨_, rfl⟩
  rw [hkk] at hfit ⊢
  have hkv : kv kk = .agg #[.int .u8 1, .int .i64 0, .int .i64 0, .string ⟨(fracT (zneg sg (fn N D)) (fn N D) (fd N D)).toArray⟩] := by rw [← hkk]; rfl
  have HB := Lib.hid h.bounds
  obtain ⟨b, v, xs, h1, h2, h3, h4, h5, h6, h7, h8, h9, h10, -⟩ := h
  obtain ⟨va, vc, rfl⟩ := row_slice h3
  obtain ⟨G, hG⟩ : ∃ G, w.heap.size = G := ⟨_, rfl⟩
  have HF := Lib.hid (And.intro h4 (And.intro h5 (And.intro h6 (And.intro h7 (And.intro h8 (And.intro h9 (And.intro h10 hG)))))))
  obtain ⟨ma, ml, mc, rfl, -, -, -⟩ := hm.slice
  obtain ⟨da, dl, dc, rfl, -, -, -⟩ := hd.slice
  obtain ⟨W0, hW⟩ : ∃ W0, ((w.alloc (.cells #[.int .u8 1, .int .i64 0, .int .i64 0, .bool sg, .slice ma ml mc, .slice da dl dc] 49)).alloc (.cells #[.int .u8 1, .int .i64 0, .int .i64 0, .string ⟨#[]⟩] 65)) = W0 := ⟨_, rfl⟩
  have hbw0 : Below w.heap.size w W0 := by rw [← hW]; exact ((Below.refl w.heap.size w).alloc (Nat.le_refl _) _).alloc (by simp) _
  have k1 : Blk W0 G 49 [.int .u8 1, .int .i64 0, .int .i64 0, .bool sg, .slice ma ml mc, .slice da dl dc] := by rw [← hW]; exact (blk_new _ _ [_, _, _, _, _, _] _ hG).alloc _
  have k2 : Blk W0 (G + 1) 65 [.int .u8 1, .int .i64 0, .int .i64 0, .string ⟨#[]⟩] := by rw [← hW]; exact blk_new _ _ [_, _, _, _] _ (by simp [hG])
  have HT := Lib.hid (text_ok sg _ _ N D W0 (hm.below hbw0) (hd.below hbw0) hN hD h0)
  have g0 := k1.cell 0
  have g3 := k1.cell 3
  have g4 := k1.cell 4
  have g5 := k1.cell 5
  simp only [List.getElem?_cons_zero, List.getElem?_cons_succ] at g0 g3 g4 g5
  have HW := Lib.hid hW
  have HBW0 := Lib.hid hbw0
  have HKV := Lib.hid hkv
  have HFit := Lib.hid hfit
  have HK := Lib.hid (And.intro k1 k2)
  have HM := Lib.hid (And.intro h1 (And.intro h2 h3))
  clear hW h1 h2 h3 h4 h5 h6 h7 h8 h9 h10 hbw0 hkv hkk hfit hm hd hN hD h0 k1 k2
  obtain ⟨ts, hts⟩ : ∃ ts : ByteArray, ⟨(fracT (zneg sg (fn N D)) (fn N D) (fd N D)).toArray⟩ = ts := ⟨_, rfl⟩
  rw [hts] at HT HKV
  clear hts
  go_enter Try.func13, Try.ntmps13
  go_wp2_with fail
  rw [HW.out]
  go_wp2_with fail
  refine HT.out.mono ?_
  rintro e w1 ⟨rfl, hb1⟩
  have k1 := HK.out.1.below hb1 HK.out.1.lt
  have k2 := HK.out.2.below hb1 HK.out.2.lt
  have hz := k2.frozen 3 (by simp)
  have hz' := k2.cell 3
  simp only [List.getElem?_cons_zero, List.getElem?_cons_succ] at hz'
  have hb01 := HBW0.out.trans (hb1.mono HBW0.out.size)
  obtain ⟨W, hW⟩ : ∃ W, w1.setCell ⟨G + 1, 3, none⟩ (.string ts) = W := ⟨_, rfl⟩
  have hbw : Below w.heap.size w W := by rw [← hW]; exact hb01.setCell (p := ⟨G + 1, 3, none⟩) (by show w.heap.size ≤ G + 1; omega) _
  have hMlt := HM.out.1.lt
  have hblt := HM.out.2.1.lt
  have hat : At W M b (.slice va L.length vc) xs B pars L G (G + 1) [.int .u8 1, .int .i64 0, .int .i64 0, .bool sg, .slice ma ml mc, .slice da dl dc] [.int .u8 1, .int .i64 0, .int .i64 0, .string ts] := by
    refine ⟨HM.out.1.of_same (hbw.block M hMlt), HM.out.2.1.of_same (hbw.block b hblt), ?_, ?_, ?_⟩
    · exact World.ownsRow.kept HM.out.2.2 (row := none) ⟨hbw.os, hbw.tape, hbw.output, hbw.size, fun k hk _ => hbw.block k hk⟩ (by
        rcases h : (Value.slice va L.length vc).ownBlock with _ | k
        · exact .inl rfl
        · exact .inr (by simp))
    · rw [← hW]; exact k1.far (p := ⟨G + 1, 3, none⟩) (by show G ≠ G + 1; omega) _
    · rw [← hW]; exact k2.set_ 3 _
  have HBW := Lib.hid hbw
  have HW2 := Lib.hid hW
  clear hW hbw hb01 hb1 k1 k2 g0 g3 g4 g5 HT HW hMlt hblt
  go_wp2_with fail
  rw [HW2.out]
  clear HW2 hz hz'
  -- the look-up
  have HAt := Lib.hid hat
  have hA := fun n => hat.drewN n
  have c0 := hat.mkr.cell 0
  have c2 := hat.mkr.cell 2
  have c3 := hat.mkr.cell 3
  have e0 := hat.key.cell 0
  have e1 := hat.key.cell 1
  have e2 := hat.key.cell 2
  have e3 := hat.key.cell 3
  simp only [List.getElem?_cons_zero, List.getElem?_cons_succ] at c0 c2 c3 e0 e1 e2 e3
  by_cases hin : kk ∈ L
  · have hl : ∀ n, (Instr.lookup 43 (.map (some b)) (.agg #[.int .u8 1, .int .i64 0, .int .i64 0, .string ts]) true).run Try.prog (W.drewN n) = .ok (.tuple #[.int .i64 ((L.idxOf kk : Nat) : Int), .bool true]) (W.drewN n) := fun n => by
      rw [← HKV.out]; exact lookup_hit (hA n).map hin
    clear hat
    have hput : put B L kk = some (L.idxOf kk, L) := by unfold put; rw [if_pos hin]
    have HP := Lib.hid hput
    clear hput hin hA
    generalize List.idxOf kk L = ix at *
    go_wp2_with fail
    go_quiet (fail)
    go_wp2_with fail
    go_ret2
    refine .inl ⟨ix, L, F, HP.out, rfl, ?_, ?_⟩
    · exact ⟨b, .slice va L.length vc, xs, HAt.out.mkr, HAt.out.map, HAt.out.row, HF.out.1, HF.out.2.1, HF.out.2.2.1, HF.out.2.2.2.1, HF.out.2.2.2.2.1, HF.out.2.2.2.2.2.1, fun k hk => Nat.lt_of_lt_of_le (HF.out.2.2.2.2.2.2.1 k hk) HBW.out.size, HB.out⟩
    · exact Sp.of_below ⟨HBW.out.os, HBW.out.tape, HBW.out.output, HBW.out.size, HBW.out.block⟩
  · have hl : ∀ n, (Instr.lookup 43 (.map (some b)) (.agg #[.int .u8 1, .int .i64 0, .int .i64 0, .string ts]) true).run Try.prog (W.drewN n) = .ok (.tuple #[.int .i64 0, .bool false]) (W.drewN n) := fun n => by
      rw [← HKV.out]; exact lookup_miss (hA n).map HFit.out hin
    clear hat
    have HIN := Lib.hid hin
    go_wp2_with fail
    go_quiet (fail)
    obtain ⟨W1, hW1⟩ : ∃ W1, W.drewN nq = W1 := ⟨_, rfl⟩
    have hat1 := hA nq
    have hbw1 : Below w.heap.size w W1 := by rw [← hW1]; exact ⟨HBW.out.os, HBW.out.tape, HBW.out.output, HBW.out.size, HBW.out.block⟩
    rw [hW1] at hat1 ⊢
    clear hW1 hA hl c0 c2 c3 e0 e1 e2 e3
    have HAt1 := Lib.hid hat1
    have c0 := hat1.mkr.cell 0
    have c2 := hat1.mkr.cell 2
    simp only [List.getElem?_cons_zero, List.getElem?_cons_succ] at c0 c2
    have HB1 := Lib.hid hbw1
    have hA := fun n => hat1.drewN n
    by_cases hroom : L.length < B
    · have hput : put B L kk = some (L.length, L ++ [kk]) := by unfold put; rw [if_neg hin, if_pos hroom]
      have HP := Lib.hid (And.intro hput hroom)
      have hgeq : ¬ ((B : Int) ≤ (L.length : Int)) := by omega
      have hgn : ¬ (B ≤ L.length) := by omega
      clear hput hin hbw1 hat1
      go_wp2_with fail
      go_quiet (fail)
      obtain ⟨W2, hW2⟩ : ∃ W2, W1.drewN nq = W2 := ⟨_, rfl⟩
      have hat2 := hA nq
      have hbw2 : Below w.heap.size w W2 := by rw [← hW2]; exact ⟨HB1.out.os, HB1.out.tape, HB1.out.output, HB1.out.size, HB1.out.block⟩
      rw [hW2] at hat2 ⊢
      clear hW2 hA c0 c2
      have hMb := HF.out.1
      have hvM := HF.out.2.1
      have hvb := HF.out.2.2.1
      have hMlt : M < W2.heap.size := hat2.mkr.lt
      have hblt : b < W2.heap.size := hat2.map.lt
      have hGlt : G < W2.heap.size := hat2.node.lt
      have hKlt : G + 1 < W2.heap.size := hat2.key.lt
      have hvlt : ∀ k, (Value.slice va L.length vc).ownBlock = some k → k < w.heap.size := fun k hk => HF.out.2.2.2.2.2.2.1 k (HF.out.2.2.2.2.2.1 k hk)
      have hwG := HF.out.2.2.2.2.2.2.2
      -- append
      obtain ⟨inf, hi1, hi2, hi3, hi4⟩ := info_parts info_node
      have hrow3 : ((W2.alloc (.cells #[.int .u8 1, .int .i64 0, .int .i64 0, .bool sg, .slice ma ml mc, .slice da dl dc] 49)).drew).ownsRow 0 49 6 (.slice va L.length vc) L.length xs := World.ownsRow.alloc (w := W2) hat2.row _
      have hnew := World.news_of_block (w := (W2.alloc (.cells #[.int .u8 1, .int .i64 0, .int .i64 0, .bool sg, .slice ma ml mc, .slice da dl dc] 49)).drew) (B := W2.heap.size) (cs := #[.int .u8 1, .int .i64 0, .int .i64 0, .bool sg, .slice ma ml mc, .slice da dl dc]) (heap_alloc_new W2 _)
      obtain ⟨g, gc, w5, hrun, hrow5, hgr5, hat5, hlt5⟩ := run_append_lies (P := Try.prog) ((W2.alloc (.cells #[.int .u8 1, .int .i64 0, .int .i64 0, .bool sg, .slice ma ml mc, .slice da dl dc] 49)).drew) 44 44 0 49 inf _ 6 80 Try.underlying44 hi1 hi2 hi3 hi4 rfl (by decide) _ L.length xs hrow3 ⟨W2.heap.size, 0, none⟩ 1 1 [.int .u8 1, .int .i64 0, .int .i64 0, .bool sg, .slice ma ml mc, .slice da dl dc] rfl hnew (by simp [Value.oneCell', *]) (by decide) (by have := HB.out; unfold maxLen; omega) (by have := HB.out; omega) (Nat.zero_le _) _ rfl
      have hsz3 : ((W2.alloc (.cells #[.int .u8 1, .int .i64 0, .int .i64 0, .bool sg, .slice ma ml mc, .slice da dl dc] 49)).drew).heap.size = W2.heap.size + 1 := by simp
      have hgM : M ≠ g := by
        rcases hat5 with h | h
        · rintro rfl; exact hvM h
        · omega
      have hgb : b ≠ g := by
        rcases hat5 with h | h
        · rintro rfl; exact hvb h
        · omega
      -- blocks behind it
      have hold5 : ∀ k, k < W2.heap.size → some k ≠ (Value.slice va L.length vc).ownBlock → w5.heap[k]? = W2.heap[k]? := fun k hk hne =>
        (hgr5.block k (by omega) hne).trans (Below.heap_alloc W2 _ k hk)
      have hG5 : some G ≠ (Value.slice va L.length vc).ownBlock := fun h => by have := hvlt G h.symm; omega
      have hK5 : some (G + 1) ≠ (Value.slice va L.length vc).ownBlock := fun h => by have := hvlt (G + 1) h.symm; omega
      have hmk5 := hat2.mkr.of_same (hold5 M hMlt (fun h => hvM h.symm))
      have hmp5 := hat2.map.of_same (hold5 b hblt (fun h => hvb h.symm))
      have hnd5 := hat2.node.of_same (hold5 G hGlt hG5)
      have hky5 := hat2.key.of_same (hold5 (G + 1) hKlt hK5)
      have hMG : M ≠ G := fun h => by have := HF.out.2.2.2.2.2.2.1 M HF.out.2.2.2.1; omega
      have hMK : M ≠ G + 1 := fun h => by have := HF.out.2.2.2.2.2.2.1 M HF.out.2.2.2.1; omega
      have hbG : b ≠ G := fun h => by have := HF.out.2.2.2.2.2.2.1 b HF.out.2.2.2.2.1; omega
      have hbK : b ≠ G + 1 := fun h => by have := HF.out.2.2.2.2.2.2.1 b HF.out.2.2.2.2.1; omega
      obtain ⟨nv', hnv'⟩ : ∃ nv', Value.slice (some ⟨g, 0, none⟩) (L.length + 1) gc = nv' := ⟨_, rfl⟩
      have hmk6 := hmk5.set_ 2 nv'
      have hmp6 : MapAt (w5.setCell ⟨M, 2, none⟩ nv') b L := hmp5.of_same (Below.heap_setCell w5 _ _ b (fun h => hMb h.symm))
      have hnd6 := hnd5.far (p := ⟨M, 2, none⟩) (fun h => hMG h.symm) nv'
      have hky6 := hky5.far (p := ⟨M, 2, none⟩) (fun h => hMK h.symm) nv'
      obtain ⟨st, w7, w8, hme, hes, hmp8, hgr8⟩ := entry_new hmp6 HFit.out HIN.out
      have hs7 : ∀ k, k ≠ b → w7.heap[k]? = (w5.setCell ⟨M, 2, none⟩ nv').heap[k]? := entry_old hmp6 hme HFit.out HIN.out
      have hmk8 := hmk6.grown hgr8 (by intro h; exact hMb (Option.some.inj h))
      have hnd8 := hnd6.grown hgr8 (by intro h; exact hbG (Option.some.inj h).symm)
      have hky8 := hky6.grown hgr8 (by intro h; exact hbK (Option.some.inj h).symm)
      have hmk7 := hmk6.of_same (hs7 M hMb)
      have hnd7 := hnd6.of_same (hs7 G (fun h => hbG h.symm))
      have hky7 := hky6.of_same (hs7 (G + 1) (fun h => hbK h.symm))
      rw [HKV.out] at hme
      -- what the region reads
      have FS := Lib.hid (fun (V : World) (p0 p1 p2 : Value) (q1 : Blk V M 46 [p0, p1, p2, .map (some b)]) (q2 : Blk V G 49 [.int .u8 1, .int .i64 0, .int .i64 0, .bool sg, .slice ma ml mc, .slice da dl dc]) (q3 : Blk V (G + 1) 65 [.int .u8 1, .int .i64 0, .int .i64 0, .string ts]) =>
        (show V.cell? ⟨M, 3, none⟩ = some (.map (some b)) ∧ V.cell? ⟨G + 1, 0, none⟩ = some (.int .u8 1) ∧ V.cell? ⟨G + 1, 1, none⟩ = some (.int .i64 0) ∧ V.cell? ⟨G + 1, 2, none⟩ = some (.int .i64 0) ∧ V.cell? ⟨G + 1, 3, none⟩ = some (.string ts) ∧ V.cell? ⟨G, 0, none⟩ = some (.int .u8 1) ∧ V.cell? ⟨G, 1, none⟩ = some (.int .i64 0) ∧ V.cell? ⟨G, 2, none⟩ = some (.int .i64 0) ∧ V.cell? ⟨G, 3, none⟩ = some (.bool sg) ∧ V.cell? ⟨G, 4, none⟩ = some (.slice ma ml mc) ∧ V.cell? ⟨G, 5, none⟩ = some (.slice da dl dc) from
          ⟨q1.cell 3, q3.cell 0, q3.cell 1, q3.cell 2, q3.cell 3, q2.cell 0, q2.cell 1, q2.cell 2, q2.cell 3, q2.cell 4, q2.cell 5⟩))
      have S2 := Lib.hid (FS.out W2.drew _ _ _ hat2.mkr hat2.node hat2.key)
      have S3 := Lib.hid (FS.out ((W2.alloc (.cells #[.int .u8 1, .int .i64 0, .int .i64 0, .bool sg, .slice ma ml mc, .slice da dl dc] 49)).drew) _ _ _ (hat2.mkr.alloc _) (hat2.node.alloc _) (hat2.key.alloc _))
      have S5 := Lib.hid (FS.out w5 _ _ _ hmk5 hnd5 hky5)
      have S6 := Lib.hid (FS.out (w5.setCell ⟨M, 2, none⟩ nv') _ _ _ hmk6 hnd6 hky6)
      have S7 := Lib.hid (FS.out w7 _ _ _ hmk7 hnd7 hky7)
      have S8 := Lib.hid (FS.out w8 _ _ _ hmk8 hnd8 hky8)
      have d2 := hat2.mkr.cell 2
      have d3 := (hat2.mkr.alloc (.cells #[.int .u8 1, .int .i64 0, .int .i64 0, .bool sg, .slice ma ml mc, .slice da dl dc] 49)).cell 2
      have f5 := hmk5.frozen 2 (by simp)
      have d5 := hmk5.cell 2
      simp only [List.getElem?_cons_zero, List.getElem?_cons_succ] at d2 d3 d5
      -- what is left
      have hbw8 : ∀ k, k < w.heap.size → ¬ F k → w8.heap[k]? = w.heap[k]? := fun k hk hn => by
        have hk2 : k < W2.heap.size := Nat.lt_of_lt_of_le hk hbw2.size
        have e1 : k ≠ b := fun h => hn (h ▸ HF.out.2.2.2.2.1)
        have e2 : k ≠ M := fun h => hn (h ▸ HF.out.2.2.2.1)
        have e3 : some k ≠ (Value.slice va L.length vc).ownBlock := fun h => hn (HF.out.2.2.2.2.2.1 k h.symm)
        have hk6 : k < (w5.setCell ⟨M, 2, none⟩ nv').heap.size := by rw [World.size_setCell]; exact Nat.lt_of_lt_of_le (by omega) hgr5.size
        exact (hgr8.block k hk6 (fun h => e1 (Option.some.inj h))).trans ((Below.heap_setCell w5 _ _ k e2).trans ((hold5 k hk2 e3).trans (hbw2.block k hk)))
      have hsz8 : w5.heap.size ≤ w8.heap.size := by
        have := hgr8.size
        rw [World.size_setCell] at this
        exact this
      have hsz5 : W2.heap.size + 1 ≤ w5.heap.size := by rw [← hsz3]; exact hgr5.size
      have hrow8 : w8.ownsRow 0 49 6 nv' (L.length + 1) (xs ++ [.int .u8 1, .int .i64 0, .int .i64 0, .bool sg, .slice ma ml mc, .slice da dl dc]) := by
        rw [hnv'] at hrow5
        have hob : nv'.ownBlock = some g := by rw [← hnv']; rfl
        exact (hrow5.kept (grown_set w5 M 2 nv') (.inr (by rw [hob]; exact fun h => hgM (Option.some.inj h).symm))).kept hgr8 (.inr (by rw [hob]; exact fun h => hgb (Option.some.inj h).symm))
      have hM8 : Mkr w8 M (fun k => F k ∨ k = g) B pars (L ++ [kk]) := by
        have hob : nv'.ownBlock = some g := by rw [← hnv']; rfl
        have hlen : (L ++ [kk]).length = L.length + 1 := by simp
        refine ⟨b, nv', _, hmk8, hmp8, by rw [hlen]; exact hrow8, hMb, by rw [hob]; exact fun h => hgM (Option.some.inj h).symm, by rw [hob]; exact fun h => hgb (Option.some.inj h).symm, .inl HF.out.2.2.2.1, .inl HF.out.2.2.2.2.1, fun k hk => ?_, fun k hk => ?_, by rw [hlen]; exact HP.out.2, HB.out.2⟩
        · rw [hob] at hk
          exact .inr (Option.some.inj hk).symm
        · rcases hk with hk | hk
          · have := HF.out.2.2.2.2.2.2.1 k hk
            have := hbw2.size
            omega
          · omega
      have hsp8 : Sp F w (fun k => F k ∨ k = g) w8 := by
        refine ⟨?_, ?_, ?_, ?_, hbw8, ?_⟩
        · exact hgr8.os.trans (hgr5.os.trans hbw2.os)
        · exact hgr8.tape.trans (hgr5.tape.trans hbw2.tape)
        · exact hgr8.output.trans (hgr5.output.trans hbw2.output)
        · have := hbw2.size
          omega
        · intro k hk
          rcases hk with hk | hk
          · exact .inl hk
          · rcases hat5 with h | h
            · exact .inl (by rw [hk]; exact HF.out.2.2.2.2.2.1 g h)
            · right
              have := hbw2.size
              omega
      have HEND := Lib.hid (And.intro hM8 hsp8)
      rw [hnv'] at hrun
      clear hM8 hsp8 hrow8 hbw8 hmk8 hnd8 hky8 hmk7 hnd7 hky7 hs7 hmk6 hnd6 hky6 hmp6 hmk5 hnd5 hky5 hmp5 hold5 hgr5 hgr8 hmp8 hrow5 hat5 hnew hrow3 hsz3 hsz5 hsz8 hbw2 hat2 hvlt hG5 hK5 hMG hMK hbG hbK hMlt hblt hGlt hKlt hlt5 hwG hi1 hi2 hi3 hi4
      have HR := Lib.hid hrun
      clear hrun
      subst hnv'

      go_wp2_with fail
      refine wp_region_noPanic ?_
      refine wp_region_held_drew (S := fun V => V.cell? ⟨M, 3, none⟩ = some (.map (some b)) ∧ V.cell? ⟨G + 1, 0, none⟩ = some (.int .u8 1) ∧ V.cell? ⟨G + 1, 1, none⟩ = some (.int .i64 0) ∧ V.cell? ⟨G + 1, 2, none⟩ = some (.int .i64 0) ∧ V.cell? ⟨G + 1, 3, none⟩ = some (.string ts) ∧ V.cell? ⟨G, 0, none⟩ = some (.int .u8 1) ∧ V.cell? ⟨G, 1, none⟩ = some (.int .i64 0) ∧ V.cell? ⟨G, 2, none⟩ = some (.int .i64 0) ∧ V.cell? ⟨G, 3, none⟩ = some (.bool sg) ∧ V.cell? ⟨G, 4, none⟩ = some (.slice ma ml mc) ∧ V.cell? ⟨G, 5, none⟩ = some (.slice da dl dc)) (by kernel_rfl) S2.out (fun hHeld => ?_)
      refine wpAnyH_take (i := 0) (v := ?v0) (getOp rfl) (by kernel_rfl) (by kernel_rfl) (by kernel_rfl) (fun _ _ _ h => h) (Or.inl ⟨?hw0, ?hy0⟩) hHeld ?rest0
      case hw0 => rfl
      case hy0 =>
        intro V hSV
        go_simp
        with_reducible rfl
      simp only [Act.put, List.setIfInBounds_toArray, List.set_cons_zero, List.set_cons_succ]
      refine wpAnyH_take (i := 1) (v := ?v1) (getOp rfl) (by kernel_rfl) (by kernel_rfl) (by kernel_rfl) (fun _ _ _ h => h) (Or.inl ⟨?hw1, ?hy1⟩) hHeld ?rest1
      case hw1 => rfl
      case hy1 =>
        intro V hSV
        go_simp
        with_reducible rfl
      simp only [Act.put, List.setIfInBounds_toArray, List.set_cons_zero, List.set_cons_succ]
      refine wpAnyH_take (i := 2) (v := ?v2) (getOp rfl) (by kernel_rfl) (by kernel_rfl) (by kernel_rfl) (fun _ _ _ h => h) (Or.inl ⟨?hw2, ?hy2⟩) hHeld ?rest2
      case hw2 => rfl
      case hy2 =>
        intro V hSV
        go_simp
        with_reducible rfl
      simp only [Act.put, List.setIfInBounds_toArray, List.set_cons_zero, List.set_cons_succ]
      refine wpAnyH_take (i := 3) (v := ?v3) (getOp rfl) (by kernel_rfl) (by kernel_rfl) (by kernel_rfl) (fun _ _ _ h => h) (Or.inl ⟨?hw3, ?hy3⟩) hHeld ?rest3
      case hw3 => rfl
      case hy3 =>
        intro V hSV
        go_simp
        with_reducible rfl
      simp only [Act.put, List.setIfInBounds_toArray, List.set_cons_zero, List.set_cons_succ]
      refine wpAnyH_take (i := 4) (v := ?v4) (getOp rfl) (by kernel_rfl) (by kernel_rfl) (by kernel_rfl) (fun _ _ _ h => h) (Or.inl ⟨?hw4, ?hy4⟩) hHeld ?rest4
      case hw4 => rfl
      case hy4 =>
        intro V hSV
        go_simp
        with_reducible rfl
      simp only [Act.put, List.setIfInBounds_toArray, List.set_cons_zero, List.set_cons_succ]
      refine wpAnyH_take (i := 5) (v := ?v5) (getOp rfl) (by kernel_rfl) (by kernel_rfl) (by kernel_rfl) (fun _ _ _ h => h) (Or.inl ⟨?hw5, ?hy5⟩) hHeld ?rest5
      case hw5 => rfl
      case hy5 =>
        intro V hSV
        go_simp
        with_reducible rfl
      simp only [Act.put, List.setIfInBounds_toArray, List.set_cons_zero, List.set_cons_succ]
      refine wpAnyH_take (i := 6) (v := ?v6) (getOp rfl) (by kernel_rfl) (by kernel_rfl) (by kernel_rfl) (fun _ _ _ h => h) (Or.inl ⟨?hw6, ?hy6⟩) hHeld ?rest6
      case hw6 => rfl
      case hy6 =>
        intro V hSV
        go_simp
        with_reducible rfl
      simp only [Act.put, List.setIfInBounds_toArray, List.set_cons_zero, List.set_cons_succ]
      refine wpAnyH_take (i := 7) (v := ?v7) (getOp rfl) (by kernel_rfl) (by kernel_rfl) (by kernel_rfl) (fun _ _ _ h => h) (Or.inl ⟨?hw7, ?hy7⟩) hHeld ?rest7
      case hw7 => rfl
      case hy7 =>
        intro V hSV
        go_simp
        with_reducible rfl
      simp only [Act.put, List.setIfInBounds_toArray, List.set_cons_zero, List.set_cons_succ]
      refine wpAnyH_take (i := 8) (v := ?v8) (getOp rfl) (by kernel_rfl) (by kernel_rfl) (by kernel_rfl) (fun _ _ _ h => h) (Or.inl ⟨?hw8, ?hy8⟩) hHeld ?rest8
      case hw8 => rfl
      case hy8 =>
        intro V hSV
        go_simp
        with_reducible rfl
      simp only [Act.put, List.setIfInBounds_toArray, List.set_cons_zero, List.set_cons_succ]
      refine wpAnyH_take (i := 10) (v := ?v10) (getOp rfl) (by kernel_rfl) (by kernel_rfl) (by kernel_rfl) (fun _ _ _ h => h) (Or.inl ⟨?hw10, ?hy10⟩) hHeld ?rest10
      case hw10 => rfl
      case hy10 =>
        intro V hSV
        go_simp
        with_reducible rfl
      simp only [Act.put, List.setIfInBounds_toArray, List.set_cons_zero, List.set_cons_succ]
      refine wpAnyH_take (i := 13) (v := ?v13) (getOp rfl) (by kernel_rfl) (by kernel_rfl) (by kernel_rfl) (fun _ _ _ h => h) (Or.inl ⟨?hw13, ?hy13⟩) hHeld ?rest13
      case hw13 => rfl
      case hy13 =>
        intro V hSV
        go_simp
        with_reducible rfl
      simp only [Act.put, List.setIfInBounds_toArray, List.set_cons_zero, List.set_cons_succ]
      refine wpAnyH_ready (rs := [9, 11]) (by kernel_rfl) (by simp) ?_
      refine AllReadyH.cons (getOp rfl) (fun K hK => ?_) (AllReadyH.cons (getOp rfl) (fun K hK => ?_) AllReadyH.nil)
      · go_simp
        refine hK.out _ _ S2.out (fun hHeld => ?_)
        clear hK K
        try simp only [Act.put, List.setIfInBounds_toArray, List.set_cons_zero, List.set_cons_succ]
        refine wpAnyH_ready (rs := [11]) (by kernel_rfl) (by simp) ?_
        refine AllReadyH.cons (getOp rfl) (fun K hK => ?_) AllReadyH.nil
        go_simp
        refine hK.out _ _ S3.out (fun hHeld => ?_)
        clear hK K
        try simp only [Act.put, List.setIfInBounds_toArray, List.set_cons_zero, List.set_cons_succ]
        refine wpAnyH_ready (rs := [12]) (by kernel_rfl) (by simp) ?_
        refine AllReadyH.cons (getOp rfl) (fun K hK => ?_) AllReadyH.nil
        refine step_append_eq rfl _ _ 44 rfl _ _ _ _ rfl rfl HR.out ?_
        refine hK.out _ _ S5.out (fun hHeld => ?_)
        clear hK K
        try simp only [Act.put, List.setIfInBounds_toArray, List.set_cons_zero, List.set_cons_succ]
        refine wpAnyH_take (i := 14) (v := ?vxa) (getOp rfl) (by kernel_rfl) (by kernel_rfl) (by kernel_rfl) (fun _ _ _ h => h) (Or.inl ⟨?hwxa, ?hyxa⟩) hHeld ?restxa
        case hwxa => rfl
        case hyxa =>
          intro V hSV
          go_simp
          with_reducible rfl
        try simp only [Act.put, List.setIfInBounds_toArray, List.set_cons_zero, List.set_cons_succ]
        refine wpAnyH_take (i := 15) (v := ?vxb) (getOp rfl) (by kernel_rfl) (by kernel_rfl) (by kernel_rfl) (fun _ _ _ h => h) (Or.inl ⟨?hwxb, ?hyxb⟩) hHeld ?restxb
        case hwxb => rfl
        case hyxb =>
          intro V hSV
          go_simp
          with_reducible rfl
        try simp only [Act.put, List.setIfInBounds_toArray, List.set_cons_zero, List.set_cons_succ]
        refine wpAnyH_ready (rs := [16]) (by kernel_rfl) (by simp) ?_
        refine AllReadyH.cons (getOp rfl) (fun K hK => ?_) AllReadyH.nil
        go_simp
        refine hK.out _ _ S6.out (fun hHeld => ?_)
        clear hK K
        try simp only [Act.put, List.setIfInBounds_toArray, List.set_cons_zero, List.set_cons_succ]
        refine wpAnyH_ready (rs := [17]) (by kernel_rfl) (by simp) ?_
        refine AllReadyH.cons (getOp rfl) (fun K hK => ?_) AllReadyH.nil
        go_simp
        refine hK.out _ _ S7.out (fun hHeld => ?_)
        clear hK K
        try simp only [Act.put, List.setIfInBounds_toArray, List.set_cons_zero, List.set_cons_succ]
        refine wpAnyH_take (i := 18) (v := ?vxc) (getOp rfl) (by kernel_rfl) (by kernel_rfl) (by kernel_rfl) (fun _ _ _ h => h) (Or.inl ⟨?hwxc, ?hyxc⟩) hHeld ?restxc
        case hwxc => rfl
        case hyxc =>
          intro V hSV
          go_simp
          with_reducible rfl
        try simp only [Act.put, List.setIfInBounds_toArray, List.set_cons_zero, List.set_cons_succ]
        refine wpAnyH_ready (rs := [19]) (by kernel_rfl) (by simp) ?_
        refine AllReadyH.cons (getOp rfl) (fun K hK => ?_) AllReadyH.nil
        go_simp
        refine hK.out _ _ S8.out (fun hHeld => ?_)
        clear hK K
        refine wpAnyH_done (by kernel_rfl) ?_ _
        refine NoPanic.normal ?_
        go_wp2_with fail
        go_ret2
        exact .inl ⟨L.length, L ++ [kk], _, HP.out.1, rfl, HEND.out⟩
      · go_simp
        refine hK.out _ _ S3.out (fun hHeld => ?_)
        clear hK K
        try simp only [Act.put, List.setIfInBounds_toArray, List.set_cons_zero, List.set_cons_succ]
        refine wpAnyH_ready (rs := [9]) (by kernel_rfl) (by simp) ?_
        refine AllReadyH.cons (getOp rfl) (fun K hK => ?_) AllReadyH.nil
        go_simp
        refine hK.out _ _ S3.out (fun hHeld => ?_)
        clear hK K
        try simp only [Act.put, List.setIfInBounds_toArray, List.set_cons_zero, List.set_cons_succ]
        refine wpAnyH_ready (rs := [12]) (by kernel_rfl) (by simp) ?_
        refine AllReadyH.cons (getOp rfl) (fun K hK => ?_) AllReadyH.nil
        refine step_append_eq rfl _ _ 44 rfl _ _ _ _ rfl rfl HR.out ?_
        refine hK.out _ _ S5.out (fun hHeld => ?_)
        clear hK K
        try simp only [Act.put, List.setIfInBounds_toArray, List.set_cons_zero, List.set_cons_succ]
        refine wpAnyH_take (i := 14) (v := ?vya) (getOp rfl) (by kernel_rfl) (by kernel_rfl) (by kernel_rfl) (fun _ _ _ h => h) (Or.inl ⟨?hwya, ?hyya⟩) hHeld ?restya
        case hwya => rfl
        case hyya =>
          intro V hSV
          go_simp
          with_reducible rfl
        try simp only [Act.put, List.setIfInBounds_toArray, List.set_cons_zero, List.set_cons_succ]
        refine wpAnyH_take (i := 15) (v := ?vyb) (getOp rfl) (by kernel_rfl) (by kernel_rfl) (by kernel_rfl) (fun _ _ _ h => h) (Or.inl ⟨?hwyb, ?hyyb⟩) hHeld ?restyb
        case hwyb => rfl
        case hyyb =>
          intro V hSV
          go_simp
          with_reducible rfl
        try simp only [Act.put, List.setIfInBounds_toArray, List.set_cons_zero, List.set_cons_succ]
        refine wpAnyH_ready (rs := [16]) (by kernel_rfl) (by simp) ?_
        refine AllReadyH.cons (getOp rfl) (fun K hK => ?_) AllReadyH.nil
        go_simp
        refine hK.out _ _ S6.out (fun hHeld => ?_)
        clear hK K
        try simp only [Act.put, List.setIfInBounds_toArray, List.set_cons_zero, List.set_cons_succ]
        refine wpAnyH_ready (rs := [17]) (by kernel_rfl) (by simp) ?_
        refine AllReadyH.cons (getOp rfl) (fun K hK => ?_) AllReadyH.nil
        go_simp
        refine hK.out _ _ S7.out (fun hHeld => ?_)
        clear hK K
        try simp only [Act.put, List.setIfInBounds_toArray, List.set_cons_zero, List.set_cons_succ]
        refine wpAnyH_take (i := 18) (v := ?vyc) (getOp rfl) (by kernel_rfl) (by kernel_rfl) (by kernel_rfl) (fun _ _ _ h => h) (Or.inl ⟨?hwyc, ?hyyc⟩) hHeld ?restyc
        case hwyc => rfl
        case hyyc =>
          intro V hSV
          go_simp
          with_reducible rfl
        try simp only [Act.put, List.setIfInBounds_toArray, List.set_cons_zero, List.set_cons_succ]
        refine wpAnyH_ready (rs := [19]) (by kernel_rfl) (by simp) ?_
        refine AllReadyH.cons (getOp rfl) (fun K hK => ?_) AllReadyH.nil
        go_simp
        refine hK.out _ _ S8.out (fun hHeld => ?_)
        clear hK K
        refine wpAnyH_done (by kernel_rfl) ?_ _
        refine NoPanic.normal ?_
        go_wp2_with fail
        go_ret2
        exact .inl ⟨L.length, L ++ [kk], _, HP.out.1, rfl, HEND.out⟩
    · have hput : put B L kk = none := by unfold put; rw [if_neg hin, if_neg hroom]
      have HP := Lib.hid hput
      have hgeq : (B : Int) ≤ (L.length : Int) := by omega
      clear hput hin hroom hbw1 hat1 hA
      go_wp2_with fail
      go_quiet (fail)
      go_wp2_with fail
      go_ret2
      refine .inr ⟨HP.out, rfl, ?_, ?_⟩
      · exact ⟨b, .slice va L.length vc, xs, HAt1.out.mkr, HAt1.out.map, HAt1.out.row, HF.out.1, HF.out.2.1, HF.out.2.2.1, HF.out.2.2.2.1, HF.out.2.2.2.2.1, HF.out.2.2.2.2.2.1, fun k hk => Nat.lt_of_lt_of_le (HF.out.2.2.2.2.2.2.1 k hk) HB1.out.size, HB.out⟩
      · exact Sp.of_below ⟨HB1.out.os, HB1.out.tape, HB1.out.output, HB1.out.size, HB1.out.block⟩
end Go.Proofs.Ytljgiagdmnedpaa.Tape_
