/-
  Check of the program, whatever comes in.
-/
import Derived.Test.YtkdfplnoldckgaaS13
namespace Go.Proofs.Ytkdfplnoldckgaa
open Go.ChangeShapes Go.WideShapes Go.ChangeAt Go.RowKit

theorem check_any (ad : Option Addr) (n cap : Nat) (N : Int) (L : List (List (List Int))) (w : World) (h : HeldL RoundC w ad n cap L) :
    Calls Try.prog 22 #[.slice ad n cap, .int .i64 N] w fun e w' => e = .returned (.int .i64 (checkE N L)) ∧ Below w.heap.size w w' := by
  by_cases h1 : N < 1 ∨ 16 < N
  · exact check_range ad n cap N L w h1
  · by_cases h0 : n = 0
    · subst h0
      obtain rfl : L = [] := List.eq_nil_of_length_eq_zero h.len
      exact check_none ad cap N w (by omega) (by omega)
    · obtain ⟨b, o, rfl⟩ := h.head (by omega)
      exact check_some b o n cap N L w (by omega) (by omega) h
end Go.Proofs.Ytkdfplnoldckgaa
