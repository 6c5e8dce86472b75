/-
  The plain mathematics of package random, continued: the index that Pick returns has a positive weight, and there is one exactly if some weight is positive.
-/
import Derived.Test.YtaekpkedjeefcaaPlain2
namespace Go.Proofs.Ytaekpkedjeefcaa
open Go.RowKit

/-- Is some weight positive? (Of no more than 4096 weights.) -/
def someW (l : List Int) : Bool := l.any fun x => decide (0 < x)
theorem weight_pos (x : Int) : 0 < weight x ↔ 0 < x := by unfold weight; split <;> (try split) <;> omega
theorem someW_snoc (l : List Int) (x : Int) : someW (l ++ [x]) = (someW l || decide (0 < x)) := by simp [someW]
theorem someW_take (l : List Int) (k : Nat) (h : k < l.length) : someW (l.take (k + 1)) = (someW (l.take k) || decide (0 < l.getD k 0)) := by
  rw [getD_take_succ l k h, someW_snoc]
theorem sumW_zero : ∀ l : List Int, sumW l = 0 ↔ someW l = false
  | [] => by simp [sumW, someW]
  | x :: r => by
    have h := sumW_zero r
    have hr := sumW_bd r
    have hx := weight_bd x
    have hp := weight_pos x
    have e : sumW (x :: r) = weight x + sumW r := by simp [sumW]
    have e2 : someW (x :: r) = (decide (0 < x) || someW r) := by simp [someW]
    rw [e, e2]
    constructor
    · intro h0
      have : sumW r = 0 := by omega
      rw [h.1 this]
      simp; omega
    · intro h0
      simp only [Bool.or_eq_false_iff, decide_eq_false_iff_not] at h0
      have := h.2 h0.2
      omega
/-- Pick's index: from i on, with what is left below the sum. -/
theorem pickAt_good : ∀ (l : List Int) (x i : Int), 0 ≤ x → x < sumW l → ∃ k : Nat, pickAt x l i = i + k ∧ k < l.length ∧ 0 < l.getD k 0
  | [], x, i, h0, h => by simp [sumW] at h; omega
  | v :: r, x, i, h0, h => by
    have e : sumW (v :: r) = weight v + sumW r := by simp [sumW]
    rw [e] at h
    rw [pickAt]
    by_cases hx : x < weight v
    · rw [if_pos hx]
      exact ⟨0, by omega, by simp, by simpa using (weight_pos v).1 (by omega)⟩
    · rw [if_neg hx]
      obtain ⟨k, h1, h2, h3⟩ := pickAt_good r (x - weight v) (i + 1) (by omega) (by omega)
      exact ⟨k + 1, by rw [h1]; omega, by simpa using h2, by simpa using h3⟩
theorem pickX_none (s : Int) (l : List Int) (h : 4096 < l.length ∨ someW l = false) : pickX s l = -1 := by
  unfold pickX
  rcases h with h | h
  · rw [if_pos h]
  · rw [if_pos ((sumW_zero l).2 h)]
    split <;> rfl
theorem pickX_some (s : Int) (l : List Int) (h4 : l.length ≤ 4096) (h : someW l = true) : ∃ k : Nat, pickX s l = k ∧ k < l.length ∧ 0 < l.getD k 0 := by
  have hs : ¬ sumW l = 0 := fun e => by rw [(sumW_zero l).1 e] at h; cases h
  have hb := sumW_bd l
  unfold pickX
  rw [if_neg (by omega), if_neg hs]
  obtain ⟨k, h1, h2, h3⟩ := pickAt_good l (belowX s (sumW l)) 0 (belowX_nonneg _ _) (belowX_lt _ _ (by omega))
  exact ⟨k, by rw [h1]; omega, h2, h3⟩
end Go.Proofs.Ytaekpkedjeefcaa
