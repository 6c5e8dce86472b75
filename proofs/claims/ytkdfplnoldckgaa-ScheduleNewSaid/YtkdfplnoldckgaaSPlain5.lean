/-
  The plain law of Check. No program in sight.
-/
import Derived.Test.YtkdfplnoldckgaaSPlain4
namespace Go.Proofs.Ytkdfplnoldckgaa

def seatsE (seen : List Int) : List Int → Option (List Int)
  | [] => some seen
  | s :: r => if hasB seen s = true then none else seatsE (seen ++ [s]) r
def badB (n : Int) (p : List Int) : Bool := p.any fun s => decide (s < 0 ∨ n ≤ s)
def pairE (n : Int) (seen p : List Int) : Int × List Int :=
  if p.length < 1 ∨ 4 < p.length then (13, seen) else if badB n p = true then (13, seen) else match seatsE seen p with | none => (22, seen) | some s => (0, s)
def roundE (n : Int) : List Int → List (List Int) → Int
  | _, [] => 0
  | seen, p :: r => if (pairE n seen p).1 = 0 then roundE n (pairE n seen p).2 r else (pairE n seen p).1
def checkR (n : Int) : List (List (List Int)) → Int
  | [] => 0
  | r :: L => if roundE n [] r = 0 then checkR n L else roundE n [] r
def checkE (n : Int) (L : List (List (List Int))) : Int := if n < 1 ∨ 16 < n then 12 else checkR n L
theorem drop_cons {α : Type} (l : List α) (d : α) (k : Nat) (hk : k < l.length) : l.drop k = l.getD k d :: l.drop (k + 1) := by
  rw [List.drop_eq_getElem_cons hk, List.getD_eq_getElem?_getD, List.getElem?_eq_getElem hk]; rfl
theorem seatsE_no (seen x : List Int) (j : Nat) (hj : j < x.length) (h : hasB seen (x.getD j 0) = true) : seatsE seen (x.drop j) = none := by
  rw [drop_cons x 0 j hj]; simp only [seatsE]; rw [if_pos h]
theorem seatsE_yes (seen x : List Int) (j : Nat) (hj : j < x.length) (h : hasB seen (x.getD j 0) = false) : seatsE seen (x.drop j) = seatsE (seen ++ [x.getD j 0]) (x.drop (j + 1)) := by
  rw [drop_cons x 0 j hj]; simp only [seatsE]; rw [if_neg (by rw [h]; exact Bool.false_ne_true)]
theorem seatsE_end (seen x : List Int) (j : Nat) (hj : x.length ≤ j) : seatsE seen (x.drop j) = some seen := by
  rw [List.drop_of_length_le hj]; rfl
theorem badB_take (n : Int) (x : List Int) (k : Nat) (hk : k < x.length) : badB n (x.take (k + 1)) = (badB n (x.take k) || decide (x.getD k 0 < 0 ∨ n ≤ x.getD k 0)) := by
  unfold badB
  rw [List.take_succ_eq_append_getElem hk, List.any_append, List.getD_eq_getElem?_getD, List.getElem?_eq_getElem hk]
  simp
theorem badB_true (n : Int) (x : List Int) (k : Nat) (hk : k < x.length) (h : x.getD k 0 < 0 ∨ n ≤ x.getD k 0) : badB n x = true := by
  unfold badB
  rw [List.any_eq_true]
  exact ⟨x.getD k 0, getD_mem hk, by simpa using h⟩
theorem badB_false {n : Int} {x : List Int} (h : badB n x = false) (k : Nat) (hk : k < x.length) : 0 ≤ x.getD k 0 ∧ x.getD k 0 < n := by
  unfold badB at h
  rw [List.any_eq_false] at h
  have h2 := h (x.getD k 0) (getD_mem hk)
  have h3 : ¬ (x.getD k 0 < 0 ∨ n ≤ x.getD k 0) := fun e => h2 (decide_eq_true e)
  omega
theorem pairE_len (n : Int) (seen p : List Int) (h : p.length < 1 ∨ 4 < p.length) : pairE n seen p = (13, seen) := by unfold pairE; rw [if_pos h]
theorem pairE_bad (n : Int) (seen p : List Int) (h : ¬ (p.length < 1 ∨ 4 < p.length)) (h2 : badB n p = true) : pairE n seen p = (13, seen) := by unfold pairE; rw [if_neg h, if_pos h2]
theorem pairE_twice (n : Int) (seen p : List Int) (h : ¬ (p.length < 1 ∨ 4 < p.length)) (h2 : badB n p = false) (h3 : seatsE seen p = none) : pairE n seen p = (22, seen) := by
  unfold pairE; rw [if_neg h, if_neg (by rw [h2]; exact Bool.false_ne_true), h3]
theorem pairE_ok (n : Int) (seen s p : List Int) (h : ¬ (p.length < 1 ∨ 4 < p.length)) (h2 : badB n p = false) (h3 : seatsE seen p = some s) : pairE n seen p = (0, s) := by
  unfold pairE; rw [if_neg h, if_neg (by rw [h2]; exact Bool.false_ne_true), h3]
theorem roundE_stop {n : Int} {seen s' : List Int} {r : List (List Int)} {j : Nat} {c : Int} (hj : j < r.length) (h : pairE n seen (r.getD j []) = (c, s')) (hc : c ≠ 0) : roundE n seen (r.drop j) = c := by
  rw [drop_cons r [] j hj]; simp only [roundE]; rw [h, if_neg hc]
theorem roundE_go {n : Int} {seen s' : List Int} {r : List (List Int)} {j : Nat} (hj : j < r.length) (h : pairE n seen (r.getD j []) = (0, s')) : roundE n seen (r.drop j) = roundE n s' (r.drop (j + 1)) := by
  rw [drop_cons r [] j hj]; simp only [roundE]; rw [h, if_pos rfl]
theorem roundE_end {n : Int} {seen : List Int} {r : List (List Int)} {j : Nat} (hj : r.length ≤ j) : roundE n seen (r.drop j) = 0 := by
  rw [List.drop_of_length_le hj]; rfl
theorem checkR_stop {n c : Int} {L : List (List (List Int))} {j : Nat} (hj : j < L.length) (h : roundE n [] (L.getD j []) = c) (hc : c ≠ 0) : checkR n (L.drop j) = c := by
  rw [drop_cons L [] j hj]; simp only [checkR]; rw [h, if_neg hc]
theorem checkR_go {n : Int} {L : List (List (List Int))} {j : Nat} (hj : j < L.length) (h : roundE n [] (L.getD j []) = 0) : checkR n (L.drop j) = checkR n (L.drop (j + 1)) := by
  rw [drop_cons L [] j hj]; simp only [checkR]; rw [h, if_pos rfl]
theorem checkR_end {n : Int} {L : List (List (List Int))} {j : Nat} (hj : L.length ≤ j) : checkR n (L.drop j) = 0 := by
  rw [List.drop_of_length_le hj]; rfl

/-- The array of those who are busy. -/
def busyA (s : List Int) : Array Value := ((List.range 16).map fun (i : Nat) => Value.bool (hasB s (i : Int))).toArray
theorem busyA_get (s : List Int) (i : Nat) (h : i < 16) : (busyA s)[i]? = some (.bool (hasB s (i : Int))) := by
  unfold busyA
  simp [h]
theorem busyA_set (s : List Int) (i : Nat) (h : i < 16) : (busyA s).setIfInBounds i (.bool true) = busyA (s ++ [(i : Int)]) := by
  apply Array.ext_getElem?
  intro j
  by_cases hj : j < 16
  · rw [busyA_get _ j hj]
    by_cases e : i = j
    · subst e
      rw [Array.getElem?_setIfInBounds_self, if_pos (by simp [busyA, h])]
      simp [hasB]
    · rw [Array.getElem?_setIfInBounds_ne e, busyA_get _ j hj]
      have : hasB (s ++ [(i : Int)]) (j : Int) = hasB s (j : Int) := by
        unfold hasB
        rw [List.any_append]
        have : ((i : Int) == (j : Int)) = false := by simp; omega
        simp [this]
      rw [this]
  · rw [Array.getElem?_eq_none (by simp [busyA]; omega), Array.getElem?_eq_none (by simp [busyA]; omega)]
theorem busyA_nil : busyA [] = #[.bool false, .bool false, .bool false, .bool false, .bool false, .bool false, .bool false, .bool false, .bool false, .bool false, .bool false, .bool false, .bool false, .bool false, .bool false, .bool false] := rfl
end Go.Proofs.Ytkdfplnoldckgaa
