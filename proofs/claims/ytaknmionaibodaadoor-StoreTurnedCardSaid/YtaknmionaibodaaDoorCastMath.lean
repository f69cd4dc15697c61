/-
The arithmetic of layer 2 (cast): a text's remainder by the prime, in plain numbers. No program in sight.
-/
import Derived.WalkKit
namespace Go.Proofs.YtaknmionaibodaaDoor
def P61 : Nat := 2305843009213693951
def be (l : List UInt8) : Nat := l.foldl (fun a c => a * 256 + c.toNat) 0
theorem foldl_be (l : List UInt8) : ∀ a : Nat, l.foldl (fun a c => a * 256 + c.toNat) a = a * 256 ^ l.length + be l := by
  induction l with
  | nil => intro a; simp [be]
  | cons x l ih =>
    intro a
    have h1 := ih (a * 256 + x.toNat)
    have h2 := ih (0 * 256 + x.toNat)
    have e : be (x :: l) = (l.foldl (fun a c => a * 256 + c.toNat) (0 * 256 + x.toNat)) := rfl
    rw [List.foldl_cons, h1, e, h2, List.length_cons, Nat.pow_succ]
    simp only [Nat.add_mul, Nat.zero_mul, Nat.zero_add]
    rw [Nat.mul_comm (256 ^ l.length) 256, ← Nat.mul_assoc]
    omega
theorem be_append (a b : List UInt8) : be (a ++ b) = be a * 256 ^ b.length + be b := by
  show (a ++ b).foldl _ 0 = _
  rw [List.foldl_append, foldl_be]
  rfl
theorem be_snoc (a : List UInt8) (c : UInt8) : be (a ++ [c]) = be a * 256 + c.toNat := by
  rw [be_append]; simp [be]
theorem be_lt (l : List UInt8) : be l < 256 ^ l.length := by
  induction l with
  | nil => simp [be]
  | cons x l ih =>
    have := be_append [x] l
    simp only [List.singleton_append] at this
    rw [this, List.length_cons, Nat.pow_succ]
    have hx : x.toNat < 256 := x.toNat_lt
    have e : be [x] = x.toNat := by simp [be]
    rw [e]
    have : (x.toNat + 1) * 256 ^ l.length ≤ 256 * 256 ^ l.length := Nat.mul_le_mul_right _ (by omega)
    rw [Nat.add_mul, Nat.one_mul] at this
    rw [Nat.mul_comm (256 ^ l.length) 256]
    omega
def more (r : Nat) (l : List UInt8) : Nat := (r * 256 ^ l.length + be l) % P61
theorem more_lt (r : Nat) (l : List UInt8) : more r l < P61 := Nat.mod_lt _ (by decide)
theorem more_mod (r : Nat) (l : List UInt8) : more (r % P61) l = more r l := by
  unfold more
  rw [Nat.add_mod, Nat.mul_mod, Nat.mod_mod, ← Nat.mul_mod, ← Nat.add_mod]
theorem more_append (r : Nat) (a b : List UInt8) : more (more r a) b = more r (a ++ b) := by
  show more ((r * 256 ^ a.length + be a) % P61) b = _
  rw [more_mod]
  unfold more
  rw [be_append, List.length_append, Nat.pow_add, Nat.add_mul, Nat.mul_assoc, Nat.add_assoc]
theorem more_nil (r : Nat) : more r [] = r % P61 := by simp [more, be]
theorem more_snoc (r : Nat) (a : List UInt8) (c : UInt8) : more r (a ++ [c]) = (more r a * 256 + c.toNat) % P61 := by
  rw [← more_append]
  show (more r a * 256 ^ 1 + be [c]) % P61 = _
  simp [be]
end Go.Proofs.YtaknmionaibodaaDoor
