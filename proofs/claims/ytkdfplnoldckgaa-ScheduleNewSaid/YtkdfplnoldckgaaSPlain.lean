/-
  The plain laws of schedules: rotation, the rounds of the circle. No program in sight.
-/
import GoSem.Claim
namespace Go.Proofs.Ytkdfplnoldckgaa

/-- A list rotated to the left. -/
def rotL (l : List Int) (n : Nat) : List Int := l.drop (n % l.length) ++ l.take (n % l.length)
theorem rotL_nil (n : Nat) : rotL [] n = [] := by simp [rotL]
theorem rotL_length (l : List Int) (n : Nat) : (rotL l n).length = l.length := by
  unfold rotL
  rcases Nat.eq_zero_or_pos l.length with h | h
  · have : l = [] := List.eq_nil_of_length_eq_zero h
    subst this; simp
  · have := Nat.mod_lt n h
    simp; omega
theorem rotL_get (l : List Int) (n k : Nat) (hk : k < l.length) : (rotL l n).getD k 0 = l.getD ((k + n) % l.length) 0 := by
  have hm := Nat.mod_lt n (show 0 < l.length by omega)
  have e : (k + n) % l.length = (k + n % l.length) % l.length := by rw [Nat.add_mod, Nat.mod_eq_of_lt hk]
  unfold rotL
  rw [e]
  obtain ⟨q, eq⟩ : ∃ q, q = n % l.length := ⟨_, rfl⟩
  rw [← eq] at hm ⊢
  clear e eq
  simp only [List.getD_eq_getElem?_getD]
  congr 1
  have hd : (l.drop q).length = l.length - q := List.length_drop
  by_cases h : q + k < l.length
  · rw [List.getElem?_append_left (by omega), List.getElem?_drop, Nat.mod_eq_of_lt (show k + q < l.length by omega), Nat.add_comm]
  · rw [List.getElem?_append_right (by omega), hd, List.getElem?_take, Nat.mod_eq_sub_mod (by omega), Nat.mod_eq_of_lt (show k + q - l.length < l.length by omega), if_pos (by omega)]
    congr 1
    omega
theorem rotL_snoc (l : List Int) (n k : Nat) (hk : k < l.length) : (rotL l n).take (k + 1) = (rotL l n).take k ++ [l.getD ((k + n) % l.length) 0] := by
  have hl := rotL_length l n
  rw [List.take_succ_eq_append_getElem (by omega), ← rotL_get l n k hk, List.getD_eq_getElem?_getD, List.getElem?_eq_getElem (by omega)]
  rfl

/-- A pairing of the circle: round r of m players (m even), place k; n: those who are there. -/
def pairA (m r k : Nat) : Int := if k = 0 then r else ((r + k) % (m - 1) : Nat)
def pairB (m r k : Nat) : Int := if k = 0 then (m - 1 : Nat) else ((r + m - 1 - k) % (m - 1) : Nat)
def pairFirst (r k : Nat) : Bool := if k = 0 then r % 2 == 0 else k % 2 == 1
def pairAt (n m r k : Nat) : List (List Int) :=
  if (n : Int) ≤ pairA m r k ∨ (n : Int) ≤ pairB m r k then [] else [if pairFirst r k then [pairA m r k, pairB m r k] else [pairB m r k, pairA m r k]]
def roundTo (n m r k : Nat) : List (List Int) := (List.range k).flatMap (pairAt n m r)
theorem roundTo_succ (n m r k : Nat) : roundTo n m r (k + 1) = roundTo n m r k ++ pairAt n m r k := by
  simp [roundTo, List.range_succ]
theorem roundTo_length (n m r k : Nat) : (roundTo n m r k).length ≤ k := by
  induction k with
  | zero => simp [roundTo]
  | succ k ih =>
    rw [roundTo_succ, List.length_append]
    have : (pairAt n m r k).length ≤ 1 := by unfold pairAt; split <;> simp
    omega
def circleTo (n m r : Nat) : List (List (List Int)) := (List.range r).map fun r => roundTo n m r (m / 2)
theorem circleTo_succ (n m r : Nat) : circleTo n m (r + 1) = circleTo n m r ++ [roundTo n m r (m / 2)] := by
  simp [circleTo, List.range_succ]
def circleL (n : Nat) : List (List (List Int)) := circleTo n (n + n % 2) (n + n % 2 - 1)

/-- The lists of s ascending numbers from f on, below n. -/
def combs (n : Nat) : Nat → Nat → List (List Int)
  | 0, _ => [[]]
  | s + 1, f => (List.range' f (n - f)).flatMap fun i => (combs n s (i + 1)).map ((i : Int) :: ·)
def combsTo (n s f k : Nat) : List (List Int) := (List.range' f k).flatMap fun i => (combs n s (i + 1)).map ((i : Int) :: ·)
theorem combsTo_succ (n s f k : Nat) : combsTo n s f (k + 1) = combsTo n s f k ++ (combs n s (f + k + 1)).map (((f + k : Nat) : Int) :: ·) := by
  unfold combsTo
  rw [← List.range'_append_1 (s := f) (m := k) (n := 1), List.flatMap_append]
  simp [List.range'_succ]
theorem combs_step (n s f : Nat) : combs n (s + 1) f = combsTo n s f (n - f) := rfl
theorem combsTo_le (n s f : Nat) (k : Nat) (C : Nat) (h : ∀ i, (combs n s i).length ≤ C) : (combsTo n s f k).length ≤ k * C := by
  induction k with
  | zero => simp [combsTo]
  | succ k ih =>
    rw [combsTo_succ, List.length_append, List.length_map, Nat.add_one_mul]
    have := h (f + k + 1)
    omega
theorem combs_le (n : Nat) (hn : n ≤ 16) : ∀ s f, (combs n s f).length ≤ 16 ^ s
  | 0, _ => by simp [combs]
  | s + 1, f => by
    rw [combs_step]
    refine Nat.le_trans (combsTo_le n s f (n - f) (16 ^ s) (combs_le n hn s)) ?_
    rw [Nat.pow_succ, Nat.mul_comm]
    exact Nat.mul_le_mul_left _ (by omega)
theorem pow_small {s : Nat} (hs : s ≤ 4) : 16 ^ s ≤ 65536 := Nat.le_trans (Nat.pow_le_pow_right (by omega) hs) (by decide)
theorem combs_small {n s : Nat} (hn : n ≤ 16) (hs : s ≤ 4) (f : Nat) : (combs n s f).length ≤ 65536 := Nat.le_trans (combs_le n hn s f) (pow_small hs)
theorem combsTo_small {n s k : Nat} (hn : n ≤ 16) (hs : s ≤ 4) (hk : k ≤ 16) (f : Nat) : (combsTo n s f k).length ≤ 1048576 := by
  have h := combsTo_le n s f k 65536 (fun i => combs_small hn hs i)
  have h2 : k * 65536 ≤ 16 * 65536 := Nat.mul_le_mul_right _ hk
  omega
theorem combs_mem (n : Nat) : ∀ s f c, c ∈ combs n s f → c.length = s
  | 0, _, c, h => by simp [combs] at h; simp [h]
  | s + 1, f, c, h => by
    simp only [combs, List.mem_flatMap, List.mem_map] at h
    obtain ⟨i, _, r, hr, rfl⟩ := h
    simp [combs_mem n s (i + 1) r hr]
theorem take_getD {α : Type} (l : List α) (j : Nat) (d : α) (hj : j < l.length) : l.take (j + 1) = l.take j ++ [l.getD j d] := by
  rw [List.take_succ_eq_append_getElem hj, List.getD_eq_getElem?_getD, List.getElem?_eq_getElem hj]; rfl
theorem combs_getD {n s f j : Nat} (hj : j < (combs n s f).length) : ((combs n s f).getD j []).length = s := by
  rw [List.getD_eq_getElem?_getD, List.getElem?_eq_getElem hj]
  exact combs_mem n s f _ (List.getElem_mem hj)
end Go.Proofs.Ytkdfplnoldckgaa
