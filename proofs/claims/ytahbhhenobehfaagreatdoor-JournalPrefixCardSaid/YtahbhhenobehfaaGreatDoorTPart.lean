/-
  Parts of records, bounds of their payloads. No program in sight.
-/
import Derived.Test.YtahbhhenobehfaaGreatDoorT24
import Derived.Test.YtahbhhenobehfaaGreatDoorT17
import Derived.Test.YtahbhhenobehfaaGreatDoorJGrow
namespace Go.Proofs.YtahbhhenobehfaaGreatDoor
open Go.RowKit

def partR (r : Rec) (m : Nat) : Rec := if r.rounds.length ≤ m then r else { r with rounds := r.rounds.take m, ended := false, goals := [], excl := exclL (r.rounds.take m) }
def partK (r : Rec) (m : Nat) : Nat := if r.rounds.length ≤ m then (payL r).length else m + 1
theorem partR_all {r : Rec} {m : Nat} (h : r.rounds.length ≤ m) : partR r m = r := if_pos h
theorem partR_cut {r : Rec} {m : Nat} (h : ¬ r.rounds.length ≤ m) : partR r m = { r with rounds := r.rounds.take m, ended := false, goals := [], excl := exclL (r.rounds.take m) } := if_neg h
theorem payL_len (r : Rec) : r.rounds.length + 1 ≤ (payL r).length := by
  unfold payL
  rw [List.length_cons, List.length_append, List.length_map]; omega
theorem part_pays (r : Rec) (m : Nat) : payL (partR r m) = (payL r).take (partK r m) := by
  unfold partK
  by_cases h : r.rounds.length ≤ m
  · rw [partR_all h, if_pos h, List.take_of_length_le (Nat.le_refl _)]
  · rw [partR_cut h, if_neg h]
    show payHead r :: ((r.rounds.take m).map payRound ++ []) = (payHead r :: (r.rounds.map payRound ++ _)).take (m + 1)
    rw [List.take_succ_cons, List.append_nil, List.take_append_of_le_length (by rw [List.length_map]; omega), List.map_take]
theorem partK_mono (r : Rec) {m m' : Nat} (h : m ≤ m') : partK r m ≤ partK r m' := by
  have := payL_len r
  unfold partK
  split <;> split <;> omega
theorem partK_le (r : Rec) (m : Nat) : partK r m ≤ (payL r).length := by
  have := payL_len r
  unfold partK
  split <;> omega
theorem all_take {α : Type} {l : List α} {f : α → Bool} (h : l.all f = true) (m : Nat) : (l.take m).all f = true := by
  rw [List.all_eq_true] at h ⊢
  exact fun x hx => h x (List.mem_of_mem_take hx)
theorem firstB_take {l : List Rnd} (h : firstB l = true) (m : Nat) : firstB (l.take m) = true := by
  cases l with
  | nil => simp [firstB]
  | cons x r =>
    cases m with
    | zero => rfl
    | succ m => exact h
theorem wfB_parts {r : Rec} (h : wfB r = true) : headB r = true ∧ firstB r.rounds = true ∧ r.rounds.all roundB = true ∧ tailB r = true ∧ sameB r.excl (exclL r.rounds) = true := by
  unfold wfB at h
  simp only [Bool.and_eq_true] at h
  exact ⟨h.1, h.2.1.1, h.2.1.2, h.2.2.1, h.2.2.2⟩
theorem wfB_part {r : Rec} (h : wfB r = true) (m : Nat) : wfB (partR r m) = true := by
  by_cases hm : r.rounds.length ≤ m
  · rw [partR_all hm]; exact h
  · rw [partR_cut hm]
    obtain ⟨h1, h2, h3, h4, h5⟩ := wfB_parts h
    unfold wfB
    simp only [Bool.and_eq_true]
    refine ⟨?_, ⟨firstB_take h2 m, all_take h3 m⟩, rfl, decide_eq_true rfl⟩
    unfold headB at h1 ⊢
    simp only [Bool.and_eq_true, decide_eq_true_eq, List.length_take] at h1 ⊢
    exact ⟨h1.1, h1.2.1, h1.2.2.1, h1.2.2.2.1, by have := h1.2.2.2.2; omega⟩
theorem nameB_len {l : List UInt8} (h : nameB l = true) : l.length ≤ 16 := by
  unfold nameB spelledB at h
  simp only [Bool.and_eq_true, decide_eq_true_eq] at h
  exact h.1.1.1.2
theorem numB_len {l : List UInt8} (h : numB l = true) : l.length ≤ 4 := by
  unfold numB at h
  simp only [Bool.and_eq_true, decide_eq_true_eq] at h
  exact h.1.1.2
/-- How long a ground term's text may be. -/
def textM : Nat → Nat
  | 0 => 16
  | k + 1 => 18 + 4 * (textM k + 1)
theorem sum_le {α : Type} (l : List α) (f : α → Nat) (M : Nat) (h : ∀ x ∈ l, f x ≤ M) : (l.map f).sum ≤ l.length * M := by
  induction l with
  | nil => simp
  | cons x r ih =>
    rw [List.map_cons, List.sum_cons, List.length_cons, Nat.add_one_mul]
    have := ih fun y hy => h y (by simp [hy])
    have := h x (by simp)
    omega
theorem textL_len : ∀ (k : Nat) (t : Tm), groundB (k + 1) t = true → (textL t).length ≤ textM k
  | k, .mk s l, h => by
    by_cases h0 : l = []
    · subst h0
      rw [textL_leaf]
      have hk : 16 ≤ textM k := by cases k with | zero => exact Nat.le_refl _ | succ k => unfold textM; omega
      simp only [groundB, List.isEmpty_nil, if_true, Bool.or_eq_true] at h
      rcases h with h | h
      · have := nameB_len h; omega
      · have := numB_len h; omega
    · have hl : 0 < l.length := List.length_pos_iff.mpr h0
      have he : l.isEmpty = false := by cases l with | nil => exact absurd rfl h0 | cons _ _ => rfl
      simp only [groundB, he, Bool.false_eq_true, if_false, Bool.and_eq_true, decide_eq_true_eq] at h
      obtain ⟨h4, hall, hn⟩ := h
      have hnl := nameB_len hn
      cases k with
      | zero =>
        rw [List.all_eq_true] at hall
        have := hall l[0] (List.getElem_mem hl)
        cases hq : l[0] with
        | mk a b => rw [hq] at this; simp [groundB] at this
      | succ k =>
        rw [textL_node s l hl]
        have hj := lens_join [44] (l.map textL)
        rw [List.map_map] at hj
        have hs := sum_le l ((fun x => x.length + ([44] : List UInt8).length) ∘ textL) (textM k + 1) (fun t ht => by
          rw [List.all_eq_true] at hall
          have := textL_len k t (hall t ht)
          show (textL t).length + 1 ≤ _
          omega)
        have hm : l.length * (textM k + 1) ≤ 4 * (textM k + 1) := Nat.mul_le_mul_right _ h4
        simp only [List.length_append, List.length_cons, List.length_nil]
        unfold textM
        omega
theorem termsL_len {x : Rnd} (h : roundB x = true) : (termsL x.joint).length ≤ 8000 := by
  unfold roundB at h
  simp only [Bool.and_eq_true, decide_eq_true_eq] at h
  obtain ⟨h1, h2, h3, h4⟩ := h
  rw [List.all_eq_true] at h4
  unfold termsL
  have hj := lens_join [44, 32] (x.joint.map textL)
  rw [List.map_map] at hj
  have hs := sum_le x.joint ((fun x => x.length + ([44, 32] : List UInt8).length) ∘ textL) (textM 3 + 2) (fun t ht => by
    have := textL_len 3 t (h4 t ht)
    show (textL t).length + 2 ≤ _
    omega)
  have hm : x.joint.length * (textM 3 + 2) ≤ 4 * (textM 3 + 2) := Nat.mul_le_mul_right _ h1
  have e : textM 3 = 1930 ∨ textM 3 ≤ 1930 := Or.inr (by decide)
  omega
theorem withinB_mem {l : List Int} {K : Int} (h : withinB l K = true) : ∀ n ∈ l, 0 ≤ n ∧ n ≤ K := fun n hn => by
  unfold withinB at h
  rw [List.all_eq_true] at h
  have := h n hn
  simp only [Bool.and_eq_true, decide_eq_true_eq] at this
  exact this
/-- What a well-formed record asks of the walks. -/
theorem fine_of {r : Rec} (h : wfB r = true) (hs : 0 ≤ r.seed ∧ r.seed ≤ 18446744073709551615) : RecFine r := by
  obtain ⟨h1, h2, h3, h4, h5⟩ := wfB_parts h
  unfold headB at h1
  unfold tailB at h4
  simp only [Bool.and_eq_true, decide_eq_true_eq] at h1 h4
  obtain ⟨hn, ⟨s1, s2⟩, ⟨c1, c2⟩, ht, hr⟩ := h1
  obtain ⟨g1, g2, _⟩ := h4
  rw [List.all_eq_true] at h3
  have hnl := nameB_len hn
  rw [blen] at hnl
  refine ⟨by omega, hs, ⟨by omega, by omega⟩, ⟨by omega, by omega⟩, by omega, by omega, fun x hx => ?_, fun x hx => ?_, ⟨by omega, fun n hn => ?_⟩⟩
  · have hx3 := h3 x hx
    have := termsL_len hx3
    unfold roundB at hx3
    simp only [Bool.and_eq_true, decide_eq_true_eq] at hx3
    exact ⟨by omega, by omega⟩
  · have hx3 := h3 x hx
    unfold roundB at hx3
    simp only [Bool.and_eq_true, decide_eq_true_eq] at hx3
    exact ⟨by omega, fun n hn => by have := withinB_mem hx3.2.2.1 n hn; omega⟩
  · have := withinB_mem g2 n hn; omega
theorem numT_len20 (n : Int) (h0 : 0 ≤ n) (h1 : n ≤ 18446744073709551615) : (numT n).length ≤ 20 := by
  unfold numT; exact dec_len 19 n.toNat (by omega)
/-- No payload of a well-formed record with a short text is long. -/
theorem pays_short {r : Rec} (h : wfB r = true) (hs : 0 ≤ r.seed ∧ r.seed ≤ 18446744073709551615) (ht : r.text.size ≤ 500) : ∀ p ∈ payL r, p.length ≤ 60000 := by
  have hf := fine_of h hs
  obtain ⟨h1, h2, h3, h4, h5⟩ := wfB_parts h
  rw [List.all_eq_true] at h3
  have hn : r.name.size ≤ 16 := by
    unfold headB at h1
    simp only [Bool.and_eq_true] at h1
    have := nameB_len h1.1
    rwa [blen] at this
  unfold tailB at h4
  simp only [Bool.and_eq_true, decide_eq_true_eq] at h4
  intro p hp
  unfold payL at hp
  rw [List.mem_cons, List.mem_append, List.mem_map] at hp
  rcases hp with rfl | ⟨x, hx, rfl⟩ | hp
  · have q1 := numT_len20 r.seed hs.1 hs.2
    have q2 := numT_len20 r.start hf.start.1 (by have := hf.start.2; omega)
    have q3 := numT_len20 r.clock hf.clock.1 (by have := hf.clock.2; omega)
    have q4 := recL_len r.text.data.toList
    rw [blen] at q4
    have q5 : r.name.data.toList.length = r.name.size := blen _
    unfold payHead
    simp only [List.length_append, List.length_cons, List.length_nil]
    omega
  · have q1 := recL_len (termsL x.joint)
    have q2 := termsL_len (h3 x hx)
    have q3 := listL_len x.faults [] (hf.faults x hx).2
    have q4 : x.faults.length ≤ 4 := by
      have := h3 x hx
      unfold roundB at this
      simp only [Bool.and_eq_true, decide_eq_true_eq] at this
      exact this.2.1
    have q5 : x.faults.length * (20 + ([] : List UInt8).length) ≤ 4 * 20 := Nat.mul_le_mul q4 (by simp)
    unfold payRound
    simp only [List.length_append, List.length_cons, List.length_nil]
    omega
  · split at hp
    · simp only [List.mem_singleton] at hp
      subst hp
      have q3 := listL_len r.goals [44] hf.goals.2
      have q5 : r.goals.length * (20 + ([44] : List UInt8).length) ≤ 4 * 21 := Nat.mul_le_mul h4.1 (by simp)
      unfold payOver
      simp only [List.length_append, List.length_cons, List.length_nil]
      omega
    · simp at hp
theorem allL_len (ls : List (List UInt8)) (h : ∀ p ∈ ls, p.length ≤ 60000) : (allL ls).length ≤ ls.length * 60006 := by
  induction ls with
  | nil => simp [allL]
  | cons p r ih =>
    have := ih fun q hq => h q (by simp [hq])
    have hp := h p (by simp)
    show (frameL p ++ allL r).length ≤ _
    rw [List.length_append, frameL_length, List.length_cons, Nat.add_one_mul]
    omega
theorem payL_len2 (r : Rec) : (payL r).length ≤ r.rounds.length + 2 := by
  unfold payL
  rw [List.length_cons, List.length_append, List.length_map]
  split <;> simp
end Go.Proofs.YtahbhhenobehfaaGreatDoor
