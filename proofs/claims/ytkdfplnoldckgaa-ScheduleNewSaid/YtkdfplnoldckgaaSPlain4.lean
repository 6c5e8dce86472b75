/-
  The plain laws of Meetings, Check and the standings. No program in sight.
-/
import Derived.Test.YtkdfplnoldckgaaSPlain3
namespace Go.Proofs.Ytkdfplnoldckgaa

def meetR (r : List (List Int)) (a c : Int) : Nat := (r.filter (metOne a c)).length
theorem meetR_take (r : List (List Int)) (a c : Int) (k : Nat) (hk : k < r.length) : meetR (r.take (k + 1)) a c = meetR (r.take k) a c + (if metOne a c (r.getD k []) = true then 1 else 0) := by
  unfold meetR
  rw [List.take_succ_eq_append_getElem hk, List.filter_append, List.length_append, List.getD_eq_getElem?_getD, List.getElem?_eq_getElem hk]
  by_cases h : metOne a c r[k] = true <;> simp [h]
theorem meetR_le (r : List (List Int)) (a c : Int) : meetR r a c ≤ r.length := List.length_filter_le _ _
def meetN (L : List (List (List Int))) (a c : Int) : Nat := (L.map fun r => meetR r a c).sum
theorem meetN_take (L : List (List (List Int))) (a c : Int) (k : Nat) (hk : k < L.length) : meetN (L.take (k + 1)) a c = meetN (L.take k) a c + meetR (L.getD k []) a c := by
  unfold meetN
  rw [List.take_succ_eq_append_getElem hk, List.map_append, List.sum_append, List.getD_eq_getElem?_getD, List.getElem?_eq_getElem hk]
  simp
theorem metB_one (x : List Int) (a c : Int) : metB [x] a c = metOne a c x := by simp [metB]
theorem getD_mem {α : Type} {l : List α} {k : Nat} {d : α} (hk : k < l.length) : l.getD k d ∈ l := by
  rw [List.getD_eq_getElem?_getD, List.getElem?_eq_getElem hk]; exact List.getElem_mem hk
end Go.Proofs.Ytkdfplnoldckgaa
