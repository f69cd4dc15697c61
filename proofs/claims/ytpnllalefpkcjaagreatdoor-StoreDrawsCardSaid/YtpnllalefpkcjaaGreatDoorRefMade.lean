/-
Contract of the reference's made: the number of digits of 32 bits.
-/
import Derived.Test.YtpnllalefpkcjaaGreatDoorRefNorm
import Derived.Test.YtpnllalefpkcjaaGreatDoorNatMulW
namespace Go.Proofs.YtpnllalefpkcjaaGreatDoor.Nat_
open Go.RowKit

/-- A number told in its normal form, in new memory. -/
def RNat (w : World) (n : Nat) (e : Ending) (w' : World) : Prop := ∃ a c, e = .returned (.slice a (nl n) c) ∧ NN w.heap.size w' (.slice a (nl n) c) n ∧ Below w.heap.size w w'
def packO (ds : List Nat) (n j : Nat) : List Nat := pack (ds.take j) ++ List.replicate (n - (j + 1) / 2) 0
theorem packO_length (ds : List Nat) (j : Nat) (hj : j ≤ ds.length) : (packO ds ((ds.length + 1) / 2) j).length = (ds.length + 1) / 2 := by
  unfold packO
  rw [List.length_append, pack_length, List.length_replicate, List.length_take]
  omega
theorem packO_end (ds : List Nat) : packO ds ((ds.length + 1) / 2) ds.length = pack ds := by
  unfold packO
  rw [List.take_length, Nat.sub_self]
  simp
theorem packO_digit (ds : List Nat) (n j : Nat) (hj : j ≤ ds.length) (ho : j % 2 = 1) : digit (packO ds n j) (j / 2) = (pack (ds.take j)).getD (j / 2) 0 := by
  have hl : (ds.take j).length = j := by rw [List.length_take]; omega
  unfold digit packO
  rw [List.getElem?_append_left (by rw [pack_length, hl]; omega), List.getD_eq_getElem?_getD]
theorem packO_step (ds : List Nat) (j x : Nat) (h : ds[j]? = some x) :
    packO ds ((ds.length + 1) / 2) (j + 1) = (packO ds ((ds.length + 1) / 2) j).set (j / 2) (if j % 2 = 1 then digit (packO ds ((ds.length + 1) / 2) j) (j / 2) + x * 4294967296 else x) := by
  obtain ⟨hj, hx⟩ := List.getElem?_eq_some_iff.1 h
  have hl : (ds.take j).length = j := by rw [List.length_take]; omega
  by_cases ho : j % 2 = 1
  · rw [if_pos ho, packO_digit ds _ j (by omega) ho]
    unfold packO
    rw [List.take_succ_eq_append_getElem hj, hx, pack_odd_get, hl, if_pos ho, List.set_append_left _ _ (by rw [pack_length, hl]; omega)]
    congr 2
    omega
  · rw [if_neg ho]
    unfold packO
    rw [List.take_succ_eq_append_getElem hj, hx, pack_odd_get, hl, if_neg ho, List.set_append_right _ _ (by rw [pack_length, hl]; omega), pack_length, hl, List.append_assoc]
    congr 1
    obtain ⟨m, hm⟩ : ∃ m, (ds.length + 1) / 2 - (j + 1) / 2 = m + 1 := ⟨(ds.length + 1) / 2 - (j + 1) / 2 - 1, by omega⟩
    rw [hm, List.replicate_succ, show j / 2 - (j + 1) / 2 = 0 by omega, List.set_cons_zero, show (ds.length + 1) / 2 - (j + 1 + 1) / 2 = m by omega]
    rfl
theorem packO_lt (ds : List Nat) (n j : Nat) (hd : ∀ x ∈ ds, x < 4294967296) : ∀ y ∈ packO ds n j, y < 18446744073709551616 := by
  intro y hy
  unfold packO at hy
  rcases List.mem_append.1 hy with h | h
  · exact pack_lt _ (fun x hx => hd x (List.mem_of_mem_take hx)) y h
  · rw [List.mem_replicate] at h
    omega
set_option maxRecDepth 100000 in
set_option maxHeartbeats 2000000 in
theorem rmade_lb (v : Value) (ds : List Nat) (w : World) (h : Lb w v ds) (hd : ∀ x ∈ ds, x < 4294967296) (hlen : ds.length ≤ 3900000) (hnl : nl (vd ds) ≤ 1000000) :
    Calls Tryz.prog 104 #[v] w (RNat w (vd ds)) := by
  have h0 := h
  obtain ⟨a, len, cap, rfl, h1, h2, h3, -, -, h5⟩ := h0
  unfold maxLen at h3
  obtain ⟨n, hn⟩ : ∃ n, (ds.length + 1) / 2 = n := ⟨_, rfl⟩
  have q0 : ((len : Int) + 1) / 2 = (n : Int) := by omega
  have hstep := packO_step ds
  have hend := packO_end ds
  have hpl := packO_length ds
  have hplt := packO_lt ds
  have hpd := packO_digit ds
  rw [hn] at hstep hend hpl
  obtain ⟨Z, hZ⟩ : ∃ Z : List Value, Z = (List.replicate n 0).map limbV := ⟨_, rfl⟩
  have hmk : ∀ V : World, (Instr.makeSlice 45 (.int .i64 (n : Int)) (.int .i64 (n : Int))).run Tryz.prog V = .ok (.slice (some ⟨V.heap.size, 0, none⟩) n n) (V.alloc (.cells Z.toArray 26)) := by
    intro V
    have h := run_make_row' (P := Tryz.prog) 45 26 _ 8 Tryz.underlying45 Tryz.limbInfo rfl .i64 .i64 n (by omega) (by omega) V
    rw [toList_made] at h
    rw [hZ]
    simpa [limbV] using h
  have HZ := Lib.hid hZ
  have H := Lib.hid h
  have HS := Lib.hid (And.intro hstep (And.intro hend (And.intro hpl (And.intro hplt hpd))))
  have HD := Lib.hid hd
  have HN := Lib.hid hn
  have H1 := Lib.hid h1
  have hn2 : n ≤ 1950001 := by omega
  have HNL := Lib.hid hnl
  clear hnl
  clear hZ h5 hstep hend hpl hplt hd hn h h1 hpd
  go_enter Tryz.func104, Tryz.ntmps104
  go_wp2_with fail
  have hZb : Blk (w.alloc (.cells Z.toArray 26)) w.heap.size 26 ((packO ds n 0).map limbV) := by
    have : (packO ds n 0).map limbV = Z := by rw [HZ.out]; simp [packO, pack]
    rw [this]; exact Blk.new _ _ _
  obtain ⟨G, hG⟩ : ∃ G, w.heap.size = G := ⟨_, rfl⟩
  have HG := Lib.hid hG
  rw [hG] at hZb ⊢
  clear hG hmk q0
  go_loopw [4] (fun i wr => ∃ j : Nat, j ≤ len ∧ i = .int .i64 (j : Int) ∧ Hid (Blk wr G 26 ((packO ds n j).map limbV)) ∧ Hid (Below w.heap.size w wr)) (fun i _ => len - (intOf i).toNat)
  case atStart => exact ⟨0, Nat.zero_le _, rfl, Lib.hid hZb, Lib.hid ((Below.refl _ _).alloc (Nat.le_refl _) _)⟩
  case round =>
    clear hZb
    obtain ⟨j, hj, rfl, HB, HBL⟩ := hrel
    by_cases hlt : j < len
    · have dd : decide (j < len) = true := decide_eq_true hlt
      have hjl : j < ds.length := by rw [H1.out]; exact hlt
      have hx32 := HD.out _ (List.getElem_mem hjl)
      have hst := HS.out.1 j _ (List.getElem?_eq_getElem hjl)
      have hLb := H.out.below HBL.out
      obtain ⟨b, off, cap2, hv, -, -⟩ := lb_addr2 hLb (by omega)
      have hcell := fun b off len cap (h : Lb wr (.slice (some ⟨b, off, none⟩) len cap) ds) => lb_cells h j hjl
      obtain ⟨rfl, -, -⟩ : a = some ⟨b, off, none⟩ ∧ len = ds.length ∧ cap = cap2 := by simpa using hv
      have hck := hcell _ _ _ _ hLb
      generalize ds[j]'hjl = x at *
      obtain ⟨m, hm⟩ : ∃ m, j / 2 = m := ⟨_, rfl⟩
      have hOl := HS.out.2.2.1 j (by omega)
      have hmn : m < n := by have := HN.out; omega
      have q1 : (j : Int) / 2 = (m : Int) := by omega
      have ho := limb_cell HB.out m (by rw [hOl]; exact hmn)
      have hf := HB.out.frozen m (by rw [List.length_map, hOl]; exact hmn)
      have hBlt := HB.out.lt
      rw [hm] at hst
      by_cases hpar : j % 2 = 0
      · have q2 : (j : Int) % 2 = 0 := by omega
        rw [if_neg (by omega)] at hst
        have hnew := HB.out.set_ m (.int .u64 (x : Int))
        rw [map_limb_set, ← hst] at hnew
        have HNEW := Lib.hid hnew
        have HBL2 := Lib.hid (HBL.out.setCell (p := ⟨G, m, none⟩) (by show w.heap.size ≤ G; rw [HG.out]; exact Nat.le_refl _) (.int .u64 (x : Int)))
        clear hst hnew hm hpar hv hcell hLb hOl
        go_wp2_with fail
        go_roundw
        first
          | exact ⟨⟨j + 1, by omega, by go_num, HNEW, HBL2⟩, by simp [intOf]; omega⟩
          | (case rel => exact ⟨j + 1, by omega, by go_num, HNEW, HBL2⟩
             case measure => simp [intOf]; omega)
      · have q2 : (j : Int) % 2 = 1 := by omega
        rw [if_pos (by omega)] at hst
        have hll := pack_last_lt (ds.take j) (fun x hx => HD.out x (List.mem_of_mem_take hx)) (by rw [List.length_take]; omega)
        have hdg := HS.out.2.2.2.2 n j (by omega) (by omega)
        have hmj : min j ds.length = j := by omega
        rw [List.length_take, hmj, ← hdg, hm] at hll
        generalize digit (packO ds n j) m = y at *
        have q3 : (y : Int) + (x : Int) * 4294967296 = ((y + x * 4294967296 : Nat) : Int) := by omega
        have hnew := HB.out.set_ m (.int .u64 ((y + x * 4294967296 : Nat) : Int))
        rw [map_limb_set, ← hst] at hnew
        rw [← q3] at hnew
        have HNEW := Lib.hid hnew.drew
        have HBL2 := Lib.hid (HBL.out.setCell (p := ⟨G, m, none⟩) (by show w.heap.size ≤ G; rw [HG.out]; exact Nat.le_refl _) (.int .u64 ((y : Int) + (x : Int) * 4294967296))).drew
        have hw1 : IntKind.u64.wrap ((x : Int) * 4294967296) = (x : Int) * 4294967296 := by rw [IntKind.wrap_u64]; omega
        have hw2 : IntKind.u64.wrap ((y : Int) + (x : Int) * 4294967296) = (y : Int) + (x : Int) * 4294967296 := by rw [IntKind.wrap_u64]; omega
        clear hst hnew hm hpar hv hcell hLb hOl hdg q3
        go_wp2_with fail
        go_region
        go_wp2_with fail
        exact ⟨⟨j + 1, by omega, by go_num, HNEW, HBL2⟩, by simp [intOf]; omega⟩
    · have hjl : j = len := by omega
      have dd : decide (j < len) = false := decide_eq_false hlt
      have hO : packO ds n j = pack ds := by rw [hjl, ← H1.out]; exact HS.out.2.1
      have hpl := pack_length ds
      rw [HN.out] at hpl
      have hblk := HB.out
      rw [hO] at hblk
      have hLb : Lb wr (.slice (some ⟨G, 0, none⟩) n n) (pack ds) := by
        refine ⟨_, _, _, rfl, hpl, Nat.le_refl _, by unfold maxLen; omega, by omega, pack_lt ds HD.out, fun _ => ⟨G, 0, rfl, hblk.lt, fun i x hi => ?_⟩⟩
        rw [Nat.zero_add, hblk.cell, List.getElem?_map, hi]
        rfl
      have c := rnorm_lb _ (pack ds) wr hLb
      rw [pack_val] at c
      have C := Lib.hid c
      clear hjl hO hpl hblk hLb c
      go_wp2_with fail
      refine C.out.mono ?_
      rintro e w' ⟨a', c', rfl, ho, hb⟩
      go_wp2_with fail
      go_ret
      have hsz := HBL.out.size
      exact ⟨a', c', rfl, ⟨Ow.ge ho hsz, HNL.out⟩, HBL.out.trans (hb.mono hsz)⟩
end Go.Proofs.YtpnllalefpkcjaaGreatDoor.Nat_
