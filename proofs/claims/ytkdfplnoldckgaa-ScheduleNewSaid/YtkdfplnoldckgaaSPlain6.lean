/-
  The plain law of standings. No program in sight.
-/
import Derived.Test.YtkdfplnoldckgaaSPlain5
namespace Go.Proofs.Ytkdfplnoldckgaa

def stdBad (seen : List Int) (p : Int) : Bool := decide (p < 0) || decide (16 ≤ p) || hasB seen p
def stdOk (seen : List Int) : List Int → Bool
  | [] => true
  | p :: r => !stdBad seen p && stdOk (seen ++ [p]) r
theorem stdOk_bad (ps : List Int) (k : Nat) (hk : k < ps.length) (h : stdBad (ps.take k) (ps.getD k 0) = true) : stdOk (ps.take k) (ps.drop k) = false := by
  rw [drop_cons ps 0 k hk]; simp only [stdOk]; rw [h]; rfl
theorem stdOk_good (ps : List Int) (k : Nat) (hk : k < ps.length) (h : stdBad (ps.take k) (ps.getD k 0) = false) : stdOk (ps.take k) (ps.drop k) = stdOk (ps.take (k + 1)) (ps.drop (k + 1)) := by
  rw [drop_cons ps 0 k hk]; simp only [stdOk]; rw [h, List.take_succ_eq_append_getElem hk, List.getD_eq_getElem?_getD, List.getElem?_eq_getElem hk]; rfl
theorem stdOk_end (ps : List Int) (k : Nat) (hk : ps.length ≤ k) : stdOk (ps.take k) (ps.drop k) = true := by
  rw [List.drop_of_length_le hk]; rfl
theorem take_getD' (l : List Int) (k : Nat) (hk : k < l.length) : l.take (k + 1) = l.take k ++ [l.getD k 0] := by
  rw [List.take_succ_eq_append_getElem hk, List.getD_eq_getElem?_getD, List.getElem?_eq_getElem hk]; rfl
end Go.Proofs.Ytkdfplnoldckgaa
