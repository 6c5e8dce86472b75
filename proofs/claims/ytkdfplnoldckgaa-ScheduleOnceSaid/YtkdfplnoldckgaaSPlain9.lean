/-
  The plain law of Double. No program in sight.
-/
import Derived.Test.YtkdfplnoldckgaaSPlain
import Derived.Test.YtkdfplnoldckgaaSPlain4
namespace Go.Proofs.Ytkdfplnoldckgaa

def dblR (s : Nat) (r : List (List Int)) : List (List Int) := r.map (rotL · s)
def dblS (L : List (List (List Int))) (s : Nat) : List (List (List Int)) := (List.range s).flatMap fun s => L.map (dblR s)
def dblL (L : List (List (List Int))) : List (List (List Int)) := dblS L 2
theorem dblS_succ (L : List (List (List Int))) (s : Nat) : dblS L (s + 1) = dblS L s ++ L.map (dblR s) := by simp [dblS, List.range_succ]
theorem dblS_length (L : List (List (List Int))) : ∀ s, (dblS L s).length = s * L.length
  | 0 => by simp [dblS]
  | s + 1 => by rw [dblS_succ, List.length_append, dblS_length L s, List.length_map, Nat.add_one_mul]
theorem map_take {α β : Type} (f : α → β) (l : List α) (k : Nat) (d : α) (hk : k < l.length) : (l.take (k + 1)).map f = (l.take k).map f ++ [f (l.getD k d)] := by
  rw [List.take_succ_eq_append_getElem hk, List.map_append, List.getD_eq_getElem?_getD, List.getElem?_eq_getElem hk]; rfl
/-- Schedules of a modest size. -/
def Modest49 (L : List (List (List Int))) : Prop := L.length ≤ 10000 ∧ ∀ r ∈ L, r.length ≤ 1000 ∧ ∀ p ∈ r, p.length ≤ 1000
end Go.Proofs.Ytkdfplnoldckgaa
