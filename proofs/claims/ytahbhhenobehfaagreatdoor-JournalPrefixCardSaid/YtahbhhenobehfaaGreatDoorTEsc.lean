/-
  A text as one word: what is escaped. No program in sight.
-/
import Derived.Test.YtahbhhenobehfaaGreatDoorTPlain
namespace Go.Proofs.YtahbhhenobehfaaGreatDoor

def plainI (x : Int) : Bool := (decide (97 ≤ x) && decide (x ≤ 122)) || (decide (65 ≤ x) && decide (x ≤ 90)) || (decide (48 ≤ x) && decide (x ≤ 57)) || (x == 40 || x == 41 || x == 44 || x == 46 || x == 45)
def hexD (i : Nat) : UInt8 := ([48, 49, 50, 51, 52, 53, 54, 55, 56, 57, 97, 98, 99, 100, 101, 102] : List UInt8).getD i 0
def escB (c : UInt8) : List UInt8 := if plainI (c.toNat : Int) = true then [c] else [37, hexD (c.toNat / 16), hexD (c.toNat % 16)]
def escT (l : List UInt8) : List UInt8 := l.flatMap escB
def escL (l : List UInt8) : List UInt8 := if l.isEmpty then [37] else escT l
theorem escB_len (c : UInt8) : (escB c).length ≤ 3 := by unfold escB; split <;> simp
theorem escT_take (l : List UInt8) (k : Nat) (hk : k < l.length) : escT (l.take (k + 1)) = escT (l.take k) ++ escB l[k] := by
  unfold escT
  rw [List.take_succ_eq_append_getElem hk, List.flatMap_append]; simp
theorem escT_len : ∀ l : List UInt8, (escT l).length ≤ 3 * l.length
  | [] => by simp [escT]
  | c :: r => by
    have h1 := escB_len c
    have h2 := escT_len r
    unfold escT at h2 ⊢
    rw [List.flatMap_cons, List.length_append, List.length_cons]; omega
theorem escB_plain {c : UInt8} (h : plainI (c.toNat : Int) = true) : escB c = [c] := by unfold escB; rw [if_pos h]
theorem escB_hex {c : UInt8} (h : plainI (c.toNat : Int) = false) : escB c = [37, hexD (c.toNat / 16), hexD (c.toNat % 16)] := by unfold escB; rw [if_neg (by rw [h]; exact Bool.false_ne_true)]
theorem escL_nil : escL [] = [37] := rfl
theorem escL_some {l : List UInt8} (h : 0 < l.length) : escL l = escT l := by
  unfold escL
  have : l.isEmpty = false := by cases l with | nil => simp at h | cons _ _ => rfl
  rw [this]; rfl
theorem plain_cases (x : Int) : (x = 40 ∨ x = 41 ∨ x = 44 ∨ x = 45 ∨ x = 46) ∨ (x < 48 ∧ (x == 40) = false ∧ (x == 41) = false ∧ (x == 44) = false ∧ (x == 46) = false ∧ (x == 45) = false) ∨ (48 ≤ x ∧ x ≤ 57) ∨ (57 < x ∧ x < 65) ∨ (65 ≤ x ∧ x ≤ 90) ∨ (90 < x ∧ x < 97) ∨ (97 ≤ x ∧ x ≤ 122) ∨ 122 < x := by
  simp only [beq_eq_false_iff_ne, ne_eq]
  omega
end Go.Proofs.YtahbhhenobehfaaGreatDoor
