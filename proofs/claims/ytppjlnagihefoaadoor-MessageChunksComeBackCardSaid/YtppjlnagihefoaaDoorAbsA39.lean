import Derived.Test.YtppjlnagihefoaaDoorAbsA38
namespace Go.Abs
open Go
variable {G : PG}
/- more evaluation -/
@[push_cast] theorem toUInt8_lit (n : Nat) : Nat.toUInt8 (no_index (OfNat.ofNat n)) = (OfNat.ofNat n : UInt8) := rfl
@[push_cast] theorem take_drop_end (l : List UInt8) (k : Nat) : (l.drop k).take (l.length - k) = l.drop k := List.take_of_length_le (by simp)
@[push_cast] theorem take_all (l : List UInt8) : l.take l.length = l := List.take_length
@[push_cast] theorem toNat_addl (n m : Nat) : ((n : Int) + (no_index (OfNat.ofNat m) : Int)).toNat = n + OfNat.ofNat m := by
  exact Int.toNat_natCast (n + m)
attribute [push_cast] Nat.add_sub_cancel_left List.length_append List.length_take List.length_drop
def isU8 : V → Prop
  | .int .u8 _ => True
  | _ => False
def litU : Nat → List V → Prop
  | 0, _ => True
  | _ + 1, [] => False
  | n + 1, x :: r => isU8 x ∧ litU n r
def litB : Nat → List V → List UInt8
  | 0, _ => []
  | n + 1, [] => 0 :: litB n []
  | n + 1, x :: r => x.toByte :: litB n r
attribute [push_cast] isU8 litU litB
theorem isU8_iff (x : V) : (∃ m, x = V.int .u8 m) ↔ isU8 x := by
  constructor
  · rintro ⟨m, rfl⟩; trivial
  · intro h
    cases x <;> try exact h.elim
    rename_i k n
    cases k <;> first | exact ⟨_, rfl⟩ | exact h.elim
@[push_cast] theorem lit_u8 (n : Nat) (vs : List V) : (∀ i, i < n → ∃ m, litF vs i = V.int .u8 m) = litU n vs := by
  refine propext ?_
  induction n generalizing vs with
  | zero => simp [litU]
  | succ n ih =>
    cases vs with
    | nil =>
      refine ⟨fun h => ?_, fun h => h.elim⟩
      obtain ⟨m, hm⟩ := h 0 (by omega)
      simp [litF] at hm
    | cons x r =>
      rw [litU, ← ih, ← isU8_iff]
      refine ⟨fun h => ⟨h 0 (by omega), fun i hi => h (i + 1) (by omega)⟩, fun h i hi => ?_⟩
      cases i with
      | zero => exact h.1
      | succ i => exact h.2 i (by omega)
@[push_cast] theorem lit_bytes (n : Nat) (vs : List V) : bytesOf n (litF vs) = litB n vs := by
  unfold bytesOf
  induction n generalizing vs with
  | zero => rfl
  | succ n ih =>
    rw [List.range_succ_eq_map, List.map_cons, List.map_map]
    cases vs with
    | nil => rw [litB, ← ih]; rfl
    | cons x r => rw [litB, ← ih]; rfl
end Go.Abs
