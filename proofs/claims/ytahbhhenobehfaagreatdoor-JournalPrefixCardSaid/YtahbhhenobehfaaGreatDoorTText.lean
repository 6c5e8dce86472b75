/-
  The text of a term. No program in sight.
-/
import Derived.Test.YtahbhhenobehfaaGreatDoorTMem
import Derived.Lib.Join
namespace Go.Proofs.YtahbhhenobehfaaGreatDoor

mutual
def textL : Tm → List UInt8
  | .mk s l => if l.isEmpty then s.data.toList else s.data.toList ++ 40 :: (Lib.join (textsL l) [44] ++ [41])
def textsL : List Tm → List (List UInt8)
  | [] => []
  | t :: r => textL t :: textsL r
end
theorem textsL_map : ∀ l, textsL l = l.map textL
  | [] => by simp [textsL]
  | t :: r => by simp [textsL, textsL_map r]
theorem textL_leaf (s : ByteArray) : textL (.mk s []) = s.data.toList := by simp [textL]
theorem textL_node (s : ByteArray) (l : List Tm) (h : 0 < l.length) : textL (.mk s l) = s.data.toList ++ 40 :: (Lib.join (l.map textL) [44] ++ [41]) := by
  have e : l.isEmpty = false := by cases l with | nil => simp at h | cons _ _ => rfl
  simp [textL, e, textsL_map]
theorem join_take_zero (sep : List UInt8) (xs : List (List UInt8)) (h : 0 < xs.length) : Lib.join (xs.take 1) sep = xs[0] := by
  rw [show 1 = 0 + 1 from rfl, List.take_succ_eq_append_getElem h]
  simp [Lib.join, List.intercalate]
theorem join_snoc (sep : List UInt8) : ∀ (xs : List (List UInt8)) (x : List UInt8), xs ≠ [] → Lib.join (xs ++ [x]) sep = Lib.join xs sep ++ sep ++ x
  | [], x, h => absurd rfl h
  | a :: r, x, _ => by
    rw [List.cons_append, Lib.join_cons, Lib.join_cons]
    simp [Lib.joinTail, List.map_append, List.flatten_append]
theorem join_take_succ (sep : List UInt8) (xs : List (List UInt8)) (k : Nat) (h : k < xs.length) (h0 : 0 < k) : Lib.join (xs.take (k + 1)) sep = Lib.join (xs.take k) sep ++ sep ++ xs[k] := by
  rw [List.take_succ_eq_append_getElem h]
  exact join_snoc sep _ _ (by intro e; have := congrArg List.length e; rw [List.length_take, List.length_nil] at this; omega)
theorem join_take_le (sep : List UInt8) (xs : List (List UInt8)) : ∀ k, (Lib.join (xs.take k) sep).length ≤ (Lib.join xs sep).length := by
  have hstep : ∀ k, k ≤ xs.length → (Lib.join (xs.take k) sep).length ≤ (Lib.join xs sep).length := by
    intro k hk
    have hdown : ∀ d, d ≤ xs.length → (Lib.join (xs.take (xs.length - d)) sep).length ≤ (Lib.join xs sep).length := by
      intro d
      induction d with
      | zero => intro _; simp
      | succ d ih =>
        intro hd
        have h1 := ih (by omega)
        refine Nat.le_trans ?_ h1
        rcases Nat.eq_zero_or_pos (xs.length - (d + 1)) with e | e
        · rw [e]; simp [Lib.join_nil]
        · have h2 := join_take_succ sep xs (xs.length - (d + 1)) (by omega) e
          rw [show xs.length - (d + 1) + 1 = xs.length - d by omega] at h2
          rw [h2]; simp only [List.length_append]; omega
    have := hdown (xs.length - k) (by omega)
    rwa [show xs.length - (xs.length - k) = k by omega] at this
  intro k
  by_cases h : k ≤ xs.length
  · exact hstep k h
  · rw [List.take_of_length_le (by omega)]; exact Nat.le_refl _
mutual
def tmH : Tm → Nat
  | .mk _ l => tmsH l + 1
def tmsH : List Tm → Nat
  | [] => 0
  | t :: r => max (tmH t) (tmsH r)
end
theorem tmsH_get : ∀ (l : List Tm) (k : Nat) (h : k < l.length), tmH l[k] ≤ tmsH l
  | t :: r, 0, _ => by simp only [List.getElem_cons_zero, tmsH]; omega
  | t :: r, k + 1, h => by
    have := tmsH_get r k (by simpa using h)
    simp only [List.getElem_cons_succ, tmsH]; omega
theorem tmH_arg {s : ByteArray} {l : List Tm} {K : Nat} (h : tmH (.mk s l) ≤ K + 1) (k : Nat) (hk : k < l.length) : tmH l[k] ≤ K := by
  have := tmsH_get l k hk
  simp only [tmH] at h; omega
end Go.Proofs.YtahbhhenobehfaaGreatDoor
