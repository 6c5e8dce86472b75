/-
  The plain law of Swiss. No program in sight.
-/
import Derived.Test.YtkdfplnoldckgaaSPlain7
namespace Go.Proofs.Ytkdfplnoldckgaa

/-- The last place before k whose player has had no bye; -1 if there is none. -/
def byeTo (L : List (List Int)) (ps : List Int) : Nat → Int
  | 0 => -1
  | k + 1 => if byeB L (ps.getD k 0) = true then byeTo L ps k else k
theorem byeTo_bd (L : List (List Int)) (ps : List Int) : ∀ k, -1 ≤ byeTo L ps k ∧ byeTo L ps k < k
  | 0 => by simp [byeTo]
  | k + 1 => by
    have := byeTo_bd L ps k
    simp only [byeTo]
    split <;> omega
def swissR (ps : List Int) (L : List (List Int)) : Int × List (List Int) :=
  if ps.length % 2 = 1 then
    if byeTo L ps ps.length < 0 then (21, []) else
      match PL (metB L) (ps.eraseIdx (byeTo L ps ps.length).toNat) with
      | none => (21, [])
      | some l => (0, l ++ [[ps.getD (byeTo L ps ps.length).toNat 0]])
  else match PL (metB L) ps with
    | none => (21, [])
    | some l => (0, l)
def swiss (ps : List Int) (L : List (List Int)) (seats : Int) : Int × List (List Int) :=
  if seats ≠ 2 ∨ ps.length < 2 ∨ 16 < ps.length then (12, []) else if stdOk [] ps = false then (13, []) else swissR ps L
theorem swiss_range {ps : List Int} {L : List (List Int)} {s : Int} (h : s ≠ 2 ∨ ps.length < 2 ∨ 16 < ps.length) : swiss ps L s = (12, []) := by unfold swiss; rw [if_pos h]
theorem swiss_bad {ps : List Int} {L : List (List Int)} (h : 2 ≤ ps.length) (h2 : ps.length ≤ 16) (h3 : stdOk [] ps = false) : swiss ps L 2 = (13, []) := by unfold swiss; rw [if_neg (by omega), if_pos h3]
theorem swiss_good {ps : List Int} {L : List (List Int)} (h : 2 ≤ ps.length) (h2 : ps.length ≤ 16) (h3 : stdOk [] ps = true) : swiss ps L 2 = swissR ps L := by unfold swiss; rw [if_neg (by omega), if_neg (by rw [h3]; exact fun e => by cases e)]
theorem swissR_even_none {ps : List Int} {L : List (List Int)} (h : ps.length % 2 = 0) (h2 : PL (metB L) ps = none) : swissR ps L = (21, []) := by unfold swissR; rw [if_neg (by omega), h2]
theorem swissR_even {ps : List Int} {L l : List (List Int)} (h : ps.length % 2 = 0) (h2 : PL (metB L) ps = some l) : swissR ps L = (0, l) := by unfold swissR; rw [if_neg (by omega), h2]
theorem swissR_odd_no {ps : List Int} {L : List (List Int)} (h : ps.length % 2 = 1) (h2 : byeTo L ps ps.length < 0) : swissR ps L = (21, []) := by unfold swissR; rw [if_pos h, if_pos h2]
theorem swissR_odd_none {ps : List Int} {L : List (List Int)} {q : Nat} (h : ps.length % 2 = 1) (h2 : byeTo L ps ps.length = q) (h3 : PL (metB L) (ps.eraseIdx q) = none) : swissR ps L = (21, []) := by
  unfold swissR; rw [if_pos h, if_neg (by omega), h2, Int.toNat_natCast, h3]
theorem swissR_odd {ps : List Int} {L l : List (List Int)} {q : Nat} (h : ps.length % 2 = 1) (h2 : byeTo L ps ps.length = q) (h3 : PL (metB L) (ps.eraseIdx q) = some l) : swissR ps L = (0, l ++ [[ps.getD q 0]]) := by
  unfold swissR; rw [if_pos h, if_neg (by omega), h2, Int.toNat_natCast, h3]
theorem stdOk_spec : ∀ (ps seen : List Int), stdOk seen ps = true → (∀ p ∈ ps, 0 ≤ p ∧ p < 16 ∧ hasB seen p = false) ∧ ps.Nodup
  | [], _, _ => by simp
  | p :: r, seen, h => by
    simp only [stdOk, Bool.and_eq_true, Bool.not_eq_true'] at h
    obtain ⟨h1, h2⟩ := h
    obtain ⟨h3, h4⟩ := stdOk_spec r (seen ++ [p]) h2
    unfold stdBad at h1
    simp only [Bool.or_eq_false_iff, decide_eq_false_iff_not] at h1
    obtain ⟨⟨h5, h6⟩, h7⟩ := h1
    have happ : ∀ q, hasB (seen ++ [p]) q = (hasB seen q || (p == q)) := fun q => by simp [hasB]
    refine ⟨fun q hq => ?_, List.nodup_cons.2 ⟨fun hm => ?_, h4⟩⟩
    · rcases List.mem_cons.1 hq with e | hm
      · subst e; exact ⟨by omega, by omega, h7⟩
      · obtain ⟨a, b, c⟩ := h3 q hm
        rw [happ, Bool.or_eq_false_iff] at c
        exact ⟨a, b, c.1⟩
    · obtain ⟨_, _, c⟩ := h3 p hm
      rw [happ] at c
      simp at c
end Go.Proofs.Ytkdfplnoldckgaa
