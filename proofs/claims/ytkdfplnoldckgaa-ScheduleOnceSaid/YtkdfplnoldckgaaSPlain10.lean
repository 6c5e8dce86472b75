/-
  The plain law of Balance. No program in sight.
-/
import Derived.Test.YtkdfplnoldckgaaSPlain4
namespace Go.Proofs.Ytkdfplnoldckgaa

def seatOne (p : Int) (s : Nat) (x : List Int) : Bool := x[s]? == some p
def balR (r : List (List Int)) (p : Int) (s : Nat) : Nat := (r.filter (seatOne p s)).length
theorem balR_take (r : List (List Int)) (p : Int) (s k : Nat) (hk : k < r.length) : balR (r.take (k + 1)) p s = balR (r.take k) p s + (if seatOne p s (r.getD k []) = true then 1 else 0) := by
  unfold balR
  rw [List.take_succ_eq_append_getElem hk, List.filter_append, List.length_append, List.getD_eq_getElem?_getD, List.getElem?_eq_getElem hk]
  by_cases h : seatOne p s r[k] = true <;> simp [h]
theorem balR_le (r : List (List Int)) (p : Int) (s : Nat) : balR r p s ≤ r.length := List.length_filter_le _ _
def balN (L : List (List (List Int))) (p : Int) (s : Nat) : Nat := (L.map fun r => balR r p s).sum
theorem balN_take (L : List (List (List Int))) (p : Int) (s k : Nat) (hk : k < L.length) : balN (L.take (k + 1)) p s = balN (L.take k) p s + balR (L.getD k []) p s := by
  unfold balN
  rw [List.take_succ_eq_append_getElem hk, List.map_append, List.sum_append, List.getD_eq_getElem?_getD, List.getElem?_eq_getElem hk]
  simp
/-- The table of seats: a row for each player, a number for each seat. -/
def balRow (L : List (List (List Int))) (m : Nat) (p : Int) : List Int := (List.range m).map fun s => (balN L p s : Int)
def balL (L : List (List (List Int))) (n m : Nat) : List (List Int) := (List.range n).map fun (p : Nat) => balRow L m (p : Int)
theorem balL_succ (L : List (List (List Int))) (n m : Nat) : balL L (n + 1) m = balL L n m ++ [balRow L m n] := by simp [balL, List.range_succ]
theorem balRow_length (L : List (List (List Int))) (m : Nat) (p : Int) : (balRow L m p).length = m := by simp [balRow]
theorem balL_length (L : List (List (List Int))) (n m : Nat) : (balL L n m).length = n := by simp [balL]
end Go.Proofs.Ytkdfplnoldckgaa
