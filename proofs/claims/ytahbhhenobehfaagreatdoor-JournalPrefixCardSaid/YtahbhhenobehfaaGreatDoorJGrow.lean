/-
  Journals that grow and that are cut, in plain mathematics.
-/
import Derived.Test.YtahbhhenobehfaaGreatDoorJTorn
import Derived.Test.YtahbhhenobehfaaGreatDoorJ5
namespace Go.Proofs.YtahbhhenobehfaaGreatDoor
open Go.RowKit

theorem cutL_split {x p r : List UInt8} (h : cutL x = some (p, r)) : x = frameL p ++ r := by
  have e := cutL_take h
  have hr : r = x.drop (6 + p.length) := by
    have h0 := bt_bd x 0
    have h1 := bt_bd x 1
    have hl := cutL_rest h
    unfold cutL at h
    split at h
    · cases h
    · split at h
      · cases h
      · split at h
        · injection h with h
          injection h with hp hr
          have : p.length = (bt x 0 * 256 + bt x 1).toNat := by rw [← hp, List.length_take, List.length_drop]; omega
          rw [this]; exact hr.symm
        · cases h
  rw [e, hr]
  exact (List.take_append_drop _ x).symm
theorem scan_split : ∀ (n : Nat) (x : List UInt8), x.length ≤ n → x = allL (scanL x).1 ++ (scanL x).2
  | 0, x, hn => by
    have h : cutL x = none := cutL_short _ (by omega)
    rw [scanL_none h]; rfl
  | n + 1, x, hn => by
    cases h : cutL x with
    | none => rw [scanL_none h]; rfl
    | some q =>
      obtain ⟨p, r⟩ := q
      have hl := cutL_rest h
      rw [scanL_some h]
      have ih := scan_split n r (by omega)
      show x = (frameL p ++ allL (scanL r).1) ++ (scanL r).2
      rw [List.append_assoc, ← ih]
      exact cutL_split h
theorem kept_len (B : List UInt8) : kept B = (allL (scanL B).1).length := by
  have h := congrArg List.length (scan_split B.length B (Nat.le_refl _))
  rw [List.length_append] at h
  unfold kept
  omega
theorem kept_take (B : List UInt8) : B.take (kept B) = allL (scanL B).1 := by
  have h := scan_split B.length B (Nat.le_refl _)
  rw [kept_len]
  obtain ⟨A, eA⟩ : ∃ A, A = (scanL B).1 := ⟨_, rfl⟩
  rw [← eA] at h ⊢
  rw [h]
  exact List.take_left
theorem actB_eq (B s : List UInt8) : actB B s = allL ((scanL B).1 ++ [s]) := by
  unfold actB
  rw [kept_take, allL_append]
  simp [allL]
theorem scan_all : ∀ (ls : List (List UInt8)), (∀ p ∈ ls, p.length ≤ 60000) → scanL (allL ls) = (ls, [])
  | [], _ => by
    have : cutL (allL []) = none := cutL_short _ (by simp [allL])
    rw [scanL_none this]; rfl
  | p :: r, h => by
    show scanL (frameL p ++ allL r) = _
    rw [scanL_some (cutL_frame p _ (h p (by simp))), scan_all r fun q hq => h q (by simp [hq])]
theorem kept_all (ls : List (List UInt8)) (h : ∀ p ∈ ls, p.length ≤ 60000) : kept (allL ls) = (allL ls).length := by
  rw [kept_len, scan_all ls h]
theorem greatest (f : Nat → Nat) (c : Nat) (h0 : f 0 ≤ c) : ∀ n, ∃ m, m ≤ n ∧ f m ≤ c ∧ (m < n → c < f (m + 1))
  | 0 => ⟨0, Nat.le_refl _, h0, fun h => by omega⟩
  | n + 1 => by
    by_cases h : f (n + 1) ≤ c
    · exact ⟨n + 1, Nat.le_refl _, h, fun h => by omega⟩
    · obtain ⟨m, h1, h2, h3⟩ := greatest f c h0 n
      refine ⟨m, by omega, h2, fun hm => ?_⟩
      by_cases e : m = n
      · subst e; omega
      · exact h3 (by omega)
/-- What is found in a journal cut at c: its first m payloads, with all whose frames end at or ahead of c. -/
theorem scan_cut (ls : List (List UInt8)) (c : Nat) (h : ∀ p ∈ ls, p.length ≤ 60000) (hc : c ≤ (allL ls).length) :
    ∃ m, m ≤ ls.length ∧ (scanL ((allL ls).take c)).1 = ls.take m ∧ ∀ i, i ≤ ls.length → (allL (ls.take i)).length ≤ c → i ≤ m := by
  obtain ⟨m, h1, h2, h3⟩ := greatest (fun i => (allL (ls.take i)).length) c (by simp [allL]) ls.length
  refine ⟨m, h1, torn ls c m h h1 h2 h3 hc, fun i hi hic => ?_⟩
  rcases Nat.lt_or_ge m i with hm | hm
  · have := h3 (by omega)
    have := allL_mono ls (m + 1) i (by omega)
    omega
  · exact hm
end Go.Proofs.YtahbhhenobehfaaGreatDoor
