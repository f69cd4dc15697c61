/-
CastPieces: in whatever pieces a text is gone through its remainder is the same, and any number is as good as its own remainder; more than 50 pieces, or one of more than 300 bytes, are let go. No condition.
-/
import Derived.Test.YtmmlmcanjacngaaDoorCastHead
import Derived.Test.YtmmlmcanjacngaaDoorFrame
namespace Go.Proofs.YtmmlmcanjacngaaDoor
open Go.RowKit

def catL (ss : List ByteArray) : List UInt8 := ss.flatMap fun s => s.data.toList
theorem catL_snoc (ss : List ByteArray) (j : Nat) (u : ByteArray) (h : ss[j]? = some u) : catL (ss.take (j + 1)) = catL (ss.take j) ++ u.data.toList := by
  unfold catL
  rw [List.take_add_one, h]
  simp

set_option maxHeartbeats 400000 in
theorem castPieces_walk (r : Int) (a : Option Addr) (len cap : Nat) (ss : List ByteArray) (w : World) (h0 : 0 ≤ r) (h1 : r < 18446744073709551616) (hrow : IsStrs w a len cap ss) (hsh : Shifts w) :
    Calls Tryd.prog 7 #[.int .u64 r, .slice a len cap] w fun e w' => e = .returned (.bool true) ∧ Below w.heap.size w w' := by
  obtain ⟨⟨hlen, hlc, hcm, hcells⟩, hsz⟩ := hrow
  unfold maxLen at hcm
  by_cases hl : 50 < len
  · clear hcells hsz
    go_enter Tryd.func7, Tryd.ntmps7
    go_wp2_with fail
    refine (head_any w hsh).mono ?_
    rintro e w1 ⟨rfl, hb1⟩
    go_wp2_with fail
    go_ret
    exact ⟨rfl, hb1⟩
  have HC := Lib.hid hcells
  have HS := Lib.hid hsz
  have HL := Lib.hid hlen
  have hsh' := Lib.hid hsh
  clear hcells hsz hlen
  have hr1 := more_lt 1 []
  have hr2 := more_lt r.toNat []
  unfold P61 at hr1 hr2
  go_enter Tryd.func7, Tryd.ntmps7
  go_wp2_with fail
  refine (rest_any ⟨#[]⟩ w (by decide) hsh).mono ?_
  rintro e w' ⟨rfl, rfl⟩
  go_wp2_with fail
  refine (more_any r ⟨#[]⟩ w h0 h1 (by decide) hsh).mono ?_
  rintro e w' ⟨rfl, rfl⟩
  go_wp2_with fail
  go_loop [5, 6, 7, 8] (fun al sm fr i => ∃ (j : Nat) (A : ByteArray) (x y : Int), j ≤ len ∧ i = .int .i64 (j : Int) ∧ al = .string A ∧ sm = .int .u64 x ∧ fr = .int .u64 y ∧ A.size ≤ 300 * j ∧ 0 ≤ x ∧ x < 2305843009213693951 ∧ 0 ≤ y ∧ y < 2305843009213693951 ∧ Hid (x = ((more 1 A.data.toList : Nat) : Int)) ∧ Hid (y = ((more r.toNat A.data.toList : Nat) : Int))) (fun _ _ _ i => len - (intOf i).toNat)
  case atStart =>
    exact ⟨0, ⟨#[]⟩, ((more 1 [] : Nat) : Int), ((more r.toNat [] : Nat) : Int), by omega, rfl, rfl, rfl, rfl, by decide, by omega, by omega, by omega, by omega, rfl, rfl⟩
  case round =>
    obtain ⟨j, A, x, y, hj, rfl, rfl, rfl, rfl, hA, hx0, hx1, hy0, hy1, HX, HY⟩ := hrel
    by_cases hlt : j < len
    · obtain ⟨b, off, ha, -, hcs⟩ := HC.out (by omega)
      subst ha
      obtain ⟨u, hu⟩ : ∃ u, ss[j]? = some u := ⟨ss[j]'(by have := HL.out; simp at this; omega), List.getElem?_eq_getElem _⟩
      have hcell := hcs j (.string u) (by simp [hu])
      have hus := HS.out u (List.mem_of_getElem? hu)
      unfold maxLen at hus
      clear hcs hu
      by_cases hbig : 300 < u.size
      · go_wp2_with fail
        refine (head_any w hsh'.out).mono ?_
        rintro e w1 ⟨rfl, hb1⟩
        go_wp2_with fail
        go_ret
        exact ⟨rfl, hb1⟩
      · obtain ⟨A2, hA2⟩ : ∃ A2, A2 = A ++ u := ⟨_, rfl⟩
        have hA2s : A2.size = A.size + u.size := by rw [hA2]; exact ByteArray.size_append
        have hA2d : A2.data.toList = A.data.toList ++ u.data.toList := by rw [hA2]; simp
        have m1 : more x.toNat u.data.toList = more 1 A2.data.toList := by
          rw [hA2d, ← more_append, HX.out, Int.toNat_natCast]
        have m2 : more y.toNat u.data.toList = more r.toNat A2.data.toList := by
          rw [hA2d, ← more_append, HY.out, Int.toNat_natCast]
        have b1 := more_lt 1 A2.data.toList
        have b2 := more_lt r.toNat A2.data.toList
        unfold P61 at b1 b2
        have M1 := Lib.hid m1
        have M2 := Lib.hid m2
        have hA2' := hA2.symm
        have hA2z : A2.size ≤ 300 * (j + 1) := by omega
        clear m1 m2 hA2 hA2s hA2d
        go_wp2_with fail
        refine (more_any x u w hx0 (by omega) (by unfold maxLen; omega) hsh'.out).mono ?_
        rintro e w' ⟨rfl, rfl⟩
        go_wp2_with fail
        refine (more_any y u w hy0 (by omega) (by unfold maxLen; omega) hsh'.out).mono ?_
        rintro e w' ⟨rfl, rfl⟩
        rw [M1.out, M2.out]
        go_wp2_with fail
        go_round
        case rel => exact ⟨j + 1, A2, _, _, by omega, by go_num, rfl, rfl, rfl, hA2z, by omega, by omega, by omega, by omega, rfl, rfl⟩
        case measure => simp [intOf]; omega
    · have q1 : ((x : Int) == ((rest A.data.toList : Nat) : Int)) = true := by rw [HX.out]; simp [rest]
      have q2 : ((y : Int) == ((more r.toNat A.data.toList : Nat) : Int)) = true := by rw [HY.out]; simp
      go_wp2_with fail
      refine (rest_any A w (by unfold maxLen; omega) hsh'.out).mono ?_
      rintro e w' ⟨rfl, rfl⟩
      go_wp2_with fail
      refine (more_any r A w h0 h1 (by unfold maxLen; omega) hsh'.out).mono ?_
      rintro e w' ⟨rfl, rfl⟩
      go_wp2_with fail
      refine (head_any w hsh'.out).mono ?_
      rintro e w1 ⟨rfl, hb1⟩
      go_wp2_with fail
      go_ret
      exact ⟨rfl, hb1⟩
end Go.Proofs.YtmmlmcanjacngaaDoor
