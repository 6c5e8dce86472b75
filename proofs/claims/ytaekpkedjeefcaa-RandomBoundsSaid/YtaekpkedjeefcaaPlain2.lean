/-
  The plain mathematics of package random, continued: the states after some calls of Next.
-/
import Derived.Test.YtaekpkedjeefcaaPlain
namespace Go.Proofs.Ytaekpkedjeefcaa
open Go.RowKit

def iterS : Nat → Int → Int
  | 0, s => s
  | k + 1, s => nextS (iterS k s)
theorem wrap_u64' (n : Int) : IntKind.u64.wrap n = n % 18446744073709551616 := by rw [IntKind.wrap_u64]
theorem iterS_eq (s : Int) (h : 0 ≤ s ∧ s ≤ 18446744073709551615) : ∀ k : Nat, iterS k s = IntKind.u64.wrap (s + IntKind.u64.wrap ((k : Int) * 11400714819323198485))
  | 0 => by
    rw [wrap_u64', wrap_u64', iterS]
    omega
  | k + 1 => by
    rw [iterS, iterS_eq s h k, nextS]
    simp only [wrap_u64']
    omega

/-! Shuffle returns each number below the length exactly once. -/
def Inj (l : List Int) : Prop := ∀ i j, i < l.length → j < l.length → l.getD i 0 = l.getD j 0 → i = j
def Rng (l : List Int) : Prop := ∀ i, i < l.length → 0 ≤ l.getD i 0 ∧ l.getD i 0 < l.length
theorem swp_getD (l : List Int) (i k j : Nat) (hi : i < l.length) (hk : k < l.length) : (swp l i k).getD j 0 = l.getD (if j = k then i else if j = i then k else j) 0 := by
  unfold swp
  by_cases h1 : j = k
  · subst h1
    simp [List.getD, hk]
  · by_cases h2 : j = i
    · subst h2
      simp [List.getD, Ne.symm h1, h1, hi]
    · simp [List.getD, Ne.symm h1, h1, Ne.symm h2, h2]
theorem swp_good (l : List Int) (i k : Nat) (hi : i < l.length) (hk : k < l.length) (h : Inj l ∧ Rng l) : Inj (swp l i k) ∧ Rng (swp l i k) := by
  obtain ⟨hinj, hrng⟩ := h
  refine ⟨fun a b ha hb he => ?_, fun a ha => ?_⟩
  · rw [swp_length] at ha hb
    rw [swp_getD l i k a hi hk, swp_getD l i k b hi hk] at he
    have := hinj _ _ (by split <;> (try split) <;> omega) (by split <;> (try split) <;> omega) he
    split at this <;> split at this <;> (try split at this) <;> (try split at this) <;> omega
  · rw [swp_length] at ha ⊢
    rw [swp_getD l i k a hi hk]
    exact hrng _ (by split <;> (try split) <;> omega)
theorem idl_good (m : Nat) : Inj (idl m) ∧ Rng (idl m) := by
  have e : ∀ i, i < m → (idl m).getD i 0 = i := fun i hi => by simp [idl, List.getD, hi]
  refine ⟨fun i j hi hj h => ?_, fun i hi => ?_⟩
  · rw [idl_length] at hi hj
    rw [e i hi, e j hj] at h
    omega
  · rw [idl_length] at hi ⊢
    rw [e i hi]
    omega
theorem shuf_good : ∀ (i : Nat) (s : Int) (l : List Int), (i = 0 ∨ i < l.length) → Inj l ∧ Rng l → Inj (shuf i s l).2 ∧ Rng (shuf i s l).2
  | 0, _, _, _, h => h
  | i + 1, s, l, hi, h => by
    have h1 := belowX_nonneg s ((i : Int) + 2)
    have h2 := belowX_lt s ((i : Int) + 2) (by omega)
    rw [shuf]
    exact shuf_good i _ _ (Or.inr (by rw [swp_length]; omega)) (swp_good l _ _ (by omega) (by omega) h)
theorem shufL_good (s n : Int) : Inj (shufL s n) ∧ Rng (shufL s n) := by
  unfold shufL
  refine shuf_good _ _ _ ?_ (idl_good _)
  rw [idl_length]
  omega
/-- Which numbers stand among the first k. -/
def seenL (m : Nat) (l : List Int) (k : Nat) : List Bool := (List.range m).map fun (j : Nat) => decide ((j : Int) ∈ l.take k)
theorem seenL_length (m : Nat) (l : List Int) (k : Nat) : (seenL m l k).length = m := by simp [seenL]
theorem seenL_zero (m : Nat) (l : List Int) : seenL m l 0 = List.replicate m false := by
  apply List.ext_getElem <;> simp [seenL]
theorem seenL_fresh (l : List Int) (h : Inj l) (k v : Nat) (hk : k < l.length) (hv : l.getD k 0 = (v : Int)) (m : Nat) (hm : v < m) : (seenL m l k).getD v false = false := by
  have : ¬ ((v : Int) ∈ l.take k) := by
    rw [← hv]
    intro hmem
    obtain ⟨j, hj, he⟩ := List.getElem_of_mem hmem
    rw [List.getElem_take] at he
    have hjk : j < k := by have := List.length_take_le k l; omega
    have := h j k (by omega) hk (by simpa [List.getD, hk, show j < l.length from by omega] using he)
    omega
  simp [seenL, List.getD, hm, this]
theorem seenL_set (l : List Int) (k v : Nat) (hk : k < l.length) (hv : l.getD k 0 = (v : Int)) (m : Nat) : (seenL m l k).set v true = seenL m l (k + 1) := by
  apply List.ext_getElem
  · simp [seenL]
  · intro j h1 h2
    rw [List.getElem_set]
    simp only [seenL, List.getElem_map, List.getElem_range]
    rw [getD_take_succ l k hk, hv]
    by_cases e : v = j
    · subst e; simp
    · rw [if_neg e]
      have : ¬ ((j : Int) = (v : Int)) := by omega
      simp [this]
end Go.Proofs.Ytaekpkedjeefcaa
