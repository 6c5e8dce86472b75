/-
  The plain laws of meetings. No program in sight.
-/
import GoSem.Claim
namespace Go.Proofs.Ytkdfplnoldckgaa

def hasB (l : List Int) (p : Int) : Bool := l.any (· == p)
theorem hasB_nil (p : Int) : hasB [] p = false := rfl
theorem hasB_take (l : List Int) (p : Int) (k : Nat) (hk : k < l.length) : hasB (l.take (k + 1)) p = (hasB (l.take k) p || (l.getD k 0 == p)) := by
  unfold hasB
  rw [List.take_succ_eq_append_getElem hk, List.any_append, List.getD_eq_getElem?_getD, List.getElem?_eq_getElem hk]
  simp
theorem hasB_true (l : List Int) (p : Int) (k : Nat) (hk : k < l.length) (h : (l.getD k 0 == p) = true) : hasB l p = true := by
  unfold hasB
  rw [List.any_eq_true]
  refine ⟨l.getD k 0, ?_, h⟩
  rw [List.getD_eq_getElem?_getD, List.getElem?_eq_getElem hk]
  exact List.getElem_mem hk
theorem hasB_all (l : List Int) (p : Int) (k : Nat) (hk : l.length ≤ k) : hasB (l.take k) p = hasB l p := by rw [List.take_of_length_le hk]
def metOne (a b : Int) (l : List Int) : Bool := !(a == b) && hasB l a && hasB l b
def metB (L : List (List Int)) (a b : Int) : Bool := L.any (metOne a b)
theorem metB_take (L : List (List Int)) (a b : Int) (k : Nat) (hk : k < L.length) : metB (L.take (k + 1)) a b = (metB (L.take k) a b || metOne a b (L.getD k [])) := by
  unfold metB
  rw [List.take_succ_eq_append_getElem hk, List.any_append, List.getD_eq_getElem?_getD, List.getElem?_eq_getElem hk]
  simp
theorem metB_true (L : List (List Int)) (a b : Int) (k : Nat) (hk : k < L.length) (h : metOne a b (L.getD k []) = true) : metB L a b = true := by
  unfold metB
  rw [List.any_eq_true]
  refine ⟨L.getD k [], ?_, h⟩
  rw [List.getD_eq_getElem?_getD, List.getElem?_eq_getElem hk]
  exact List.getElem_mem hk
def byeOne (p : Int) (l : List Int) : Bool := l.length == 1 && l.getD 0 0 == p
def byeB (L : List (List Int)) (p : Int) : Bool := L.any (byeOne p)
theorem byeB_take (L : List (List Int)) (p : Int) (k : Nat) (hk : k < L.length) : byeB (L.take (k + 1)) p = (byeB (L.take k) p || byeOne p (L.getD k [])) := by
  unfold byeB
  rw [List.take_succ_eq_append_getElem hk, List.any_append, List.getD_eq_getElem?_getD, List.getElem?_eq_getElem hk]
  simp
theorem byeB_true (L : List (List Int)) (p : Int) (k : Nat) (hk : k < L.length) (h : byeOne p (L.getD k []) = true) : byeB L p = true := by
  unfold byeB
  rw [List.any_eq_true]
  refine ⟨L.getD k [], ?_, h⟩
  rw [List.getD_eq_getElem?_getD, List.getElem?_eq_getElem hk]
  exact List.getElem_mem hk
end Go.Proofs.Ytkdfplnoldckgaa
