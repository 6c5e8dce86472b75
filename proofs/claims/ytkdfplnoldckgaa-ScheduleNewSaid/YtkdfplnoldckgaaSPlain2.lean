/-
  The plain laws of Robin. No program in sight.
-/
import Derived.Test.YtkdfplnoldckgaaSPlain
namespace Go.Proofs.Ytkdfplnoldckgaa

def robTo (s : Nat) (X : List (List Int)) (k : Nat) : List (List (List Int)) := (List.range k).map fun i => [rotL (X.getD i []) (i % s)]
theorem robTo_succ (s : Nat) (X : List (List Int)) (k : Nat) : robTo s X (k + 1) = robTo s X k ++ [[rotL (X.getD k []) (k % s)]] := by
  simp [robTo, List.range_succ]
theorem robTo_length (s : Nat) (X : List (List Int)) (k : Nat) : (robTo s X k).length = k := by simp [robTo]
/-- The schedule that Robin returns, and its error. -/
def robinL (n s : Int) : List (List (List Int)) :=
  if s < 2 ∨ 4 < s ∨ n < s ∨ 16 < n then [] else if s = 2 then circleL n.toNat else robTo s.toNat (combs n.toNat s.toNat 0) (combs n.toNat s.toNat 0).length
def robinE (n s : Int) : Int := if s < 2 ∨ 4 < s ∨ n < s ∨ 16 < n then 12 else 0
theorem robin_two {n : Nat} (h2 : 2 ≤ n) (h16 : n ≤ 16) : robinL n 2 = circleL n ∧ 0 = robinE n 2 := by
  unfold robinL robinE
  rw [if_neg (by omega), if_pos rfl, if_neg (by omega)]
  exact ⟨rfl, rfl⟩
theorem robin_more {n s : Nat} (hs : 3 ≤ s) (hs4 : s ≤ 4) (hsn : s ≤ n) (h16 : n ≤ 16) : robinL n s = robTo s (combs n s 0) (combs n s 0).length ∧ 0 = robinE n s := by
  unfold robinL robinE
  rw [if_neg (by omega), if_neg (by omega), if_neg (by omega)]
  exact ⟨rfl, rfl⟩
/-- What the closure of Robin makes of the lists, one after the other. -/
def robFold (s : Nat) (out : List (List (List Int))) (ls : List (List Int)) : List (List (List Int)) := ls.foldl (fun out l => out ++ [[rotL l (out.length % s)]]) out
theorem robFold_append (s : Nat) (out : List (List (List Int))) (a b : List (List Int)) : robFold s out (a ++ b) = robFold s (robFold s out a) b := by
  unfold robFold; rw [List.foldl_append]
theorem robFold_one (s : Nat) (out : List (List (List Int))) (l : List Int) : robFold s out [l] = out ++ [[rotL l (out.length % s)]] := rfl
theorem robFold_length (s : Nat) : ∀ (ls : List (List Int)) (out : List (List (List Int))), (robFold s out ls).length = out.length + ls.length
  | [], out => rfl
  | l :: ls, out => by
    show (robFold s (out ++ [[rotL l (out.length % s)]]) ls).length = _
    rw [robFold_length s ls]
    simp; omega
theorem robFold_take (s : Nat) (X : List (List Int)) : ∀ k, k ≤ X.length → robFold s [] (X.take k) = robTo s X k
  | 0, _ => by simp [robFold, robTo]
  | k + 1, h => by
    rw [take_getD X k [] (by omega), robFold_append, robFold_take s X k (by omega), robFold_one, robTo_succ, robTo_length]
theorem robFold_all (s : Nat) (X : List (List Int)) : robFold s [] X = robTo s X X.length := by
  have := robFold_take s X X.length (Nat.le_refl _)
  rwa [List.take_length] at this
theorem combsTo_mono (n s f k : Nat) : ∀ d, (combsTo n s f k).length ≤ (combsTo n s f (k + d)).length
  | 0 => Nat.le_refl _
  | d + 1 => by
    have := combsTo_mono n s f k d
    rw [show k + (d + 1) = k + d + 1 by omega, combsTo_succ, List.length_append]
    omega
theorem combsTo_le_all (n s f k : Nat) (h : f + k ≤ n) : (combsTo n s f k).length ≤ (combs n (s + 1) f).length := by
  have := combsTo_mono n s f k (n - f - k)
  rwa [show k + (n - f - k) = n - f by omega] at this
theorem combsTo_part (n s f k : Nat) (h : f + k < n) : (combsTo n s f k).length + (combs n s (f + k + 1)).length ≤ (combs n (s + 1) f).length := by
  have := combsTo_le_all n s f (k + 1) (by omega)
  rw [combsTo_succ, List.length_append, List.length_map] at this
  exact this
theorem combsTo_snoc_map (n s f k : Nat) (l : List Int) : (combsTo n s f (k + 1)).map (l ++ ·) = (combsTo n s f k).map (l ++ ·) ++ (combs n s (f + k + 1)).map ((l ++ [((f + k : Nat) : Int)]) ++ ·) := by
  rw [combsTo_succ, List.map_append, List.map_map]
  congr 1
  refine List.map_congr_left fun c _ => ?_
  simp
end Go.Proofs.Ytkdfplnoldckgaa
