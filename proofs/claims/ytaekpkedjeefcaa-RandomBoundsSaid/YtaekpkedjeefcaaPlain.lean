/-
  The plain mathematics of package random: what Next, Below, Seed, Shuffle and Pick compute, as functions on integers and lists; no program in sight.
-/
import GoSem.Claim
import Derived.WalkKit
import Derived.OpenShut
namespace Go.Proofs.Ytaekpkedjeefcaa
open Go.RowKit

/-- The state that follows, and the number that is drawn. -/
def nextS (s : Int) : Int := IntKind.u64.wrap (s + 11400714819323198485)
def mixA (z : Int) : Int := IntKind.u64.wrap (bits BinOp.xor IntKind.u64 z (z / 1073741824) * 13787848793156543929)
def mixB (z : Int) : Int := IntKind.u64.wrap (bits BinOp.xor IntKind.u64 z (z / 134217728) * 10723151780598845931)
def mixC (z : Int) : Int := bits BinOp.xor IntKind.u64 z (z / 2147483648)
def nextX (s : Int) : Int := mixC (mixB (mixA (nextS s)))
def belowS (s n : Int) : Int := if n < 1 then s else nextS s
def belowX (s n : Int) : Int := if n < 1 then 0 else nextX s % n

theorem nextX_nonneg (s : Int) : 0 ≤ nextX s := by
  unfold nextX mixC
  exact (bounds_u64 (wf_bits _ _ _ _)).1
theorem belowX_nonneg (s n : Int) : 0 ≤ belowX s n := by
  unfold belowX
  split
  · omega
  · exact Int.emod_nonneg _ (by omega)
theorem belowX_lt (s n : Int) (h : 1 ≤ n) : belowX s n < n := by
  unfold belowX
  rw [if_neg (by omega)]
  exact Int.emod_lt_of_pos _ (by omega)

/-- A weight within its limits. -/
def weight (n : Int) : Int := if n < 0 then 0 else if 4294967296 < n then 4294967296 else n

/-- The hash of bytes. -/
def fnvStep (h b : Int) : Int := IntKind.u64.wrap (bits BinOp.xor IntKind.u64 h b * 1099511628211)
def fnv (h : Int) : List UInt8 → Int
  | [] => h
  | b :: r => fnv (fnvStep h b.toNat) r
theorem fnv_snoc (l : List UInt8) (b : UInt8) : ∀ h, fnv h (l ++ [b]) = fnvStep (fnv h l) b.toNat := by
  induction l with
  | nil => intro h; rfl
  | cons x r ih => intro h; exact ih _
theorem u64_byte (b : UInt8) : IntKind.u64.wrap (b.toNat : Int) = b.toNat := IntWalk.u64_in _ (by have := b.toNat_lt; omega)
theorem fnv_take (s : ByteArray) (k : Nat) (hk : k < s.size) (h : Int) : fnv h (s.data.toList.take (k + 1)) = IntKind.u64.wrap (bits BinOp.xor IntKind.u64 (fnv h (s.data.toList.take k)) (IntKind.u64.wrap (s[k].toNat : Int)) * 1099511628211) := by
  rw [List.take_succ_eq_append_getElem (by simpa using hk), fnv_snoc, u64_byte]; rfl

/-- The list 0, 1, .., m - 1; two elements exchanged; the exchanges of Shuffle from index i down to 1. -/
def idl (m : Nat) : List Int := (List.range m).map Int.ofNat
def swp (l : List Int) (i k : Nat) : List Int := (l.set i (l.getD k 0)).set k (l.getD i 0)
def shuf : Nat → Int → List Int → Int × List Int
  | 0, s, l => (s, l)
  | i + 1, s, l => shuf i (belowS s ((i : Int) + 2)) (swp l (i + 1) (belowX s ((i : Int) + 2)).toNat)
def clampN (n : Int) : Nat := if n < 0 then 0 else if 4096 < n then 4096 else n.toNat
def shufS (s n : Int) : Int := (shuf (clampN n - 1) s (idl (clampN n))).1
def shufL (s n : Int) : List Int := (shuf (clampN n - 1) s (idl (clampN n))).2
theorem idl_length (m : Nat) : (idl m).length = m := by simp [idl]
theorem swp_length (l : List Int) (i k : Nat) : (swp l i k).length = l.length := by simp [swp]
theorem shuf_length : ∀ (i : Nat) (s : Int) (l : List Int), (shuf i s l).2.length = l.length
  | 0, _, _ => rfl
  | i + 1, s, l => by rw [shuf, shuf_length, swp_length]
theorem shufL_length (s n : Int) : (shufL s n).length = clampN n := by unfold shufL; rw [shuf_length, idl_length]
theorem clampN_le (n : Int) : clampN n ≤ 4096 := by unfold clampN; split <;> (try split) <;> omega
/-- What the first loop has filled in after k rounds. -/
def fillTo (m k : Nat) : List Int := idl k ++ List.replicate (m - k) 0
theorem fillTo_zero (m : Nat) : fillTo m 0 = List.replicate m 0 := by simp [fillTo, idl]
theorem fillTo_full (m : Nat) : fillTo m m = idl m := by simp [fillTo]
theorem fillTo_length (m k : Nat) (h : k ≤ m) : (fillTo m k).length = m := by simp [fillTo, idl_length]; omega
theorem fillTo_set (m k : Nat) (h : k < m) : (fillTo m k).set k (k : Int) = fillTo m (k + 1) := by
  unfold fillTo
  rw [List.set_append_right _ _ (by simp [idl_length]), idl_length, Nat.sub_self]
  have : m - k = (m - (k + 1)) + 1 := by omega
  rw [this, List.replicate_succ, List.set_cons_zero]
  simp [idl, List.range_succ]
theorem shuf_step (i : Nat) (s : Int) (l : List Int) (h : 0 < i) : shuf i s l = shuf (i - 1) (belowS s ((i : Int) + 1)) (swp l i (belowX s ((i : Int) + 1)).toNat) := by
  obtain ⟨j, rfl⟩ : ∃ j, i = j + 1 := ⟨i - 1, by omega⟩
  have e : (((j + 1 : Nat) : Int) + 1) = (j : Int) + 2 := by omega
  rw [shuf, e]; rfl

/-- The sum of the weights as they count, and the first index at which what is left is less than the weight. -/
def sumW (l : List Int) : Int := (l.map weight).sum
def pickAt : Int → List Int → Int → Int
  | _, [], _ => -1
  | x, v :: r, i => if x < weight v then i else pickAt (x - weight v) r (i + 1)
def pickS (s : Int) (l : List Int) : Int := if 4096 < l.length then s else if sumW l = 0 then s else belowS s (sumW l)
def pickX (s : Int) (l : List Int) : Int := if 4096 < l.length then -1 else if sumW l = 0 then -1 else pickAt (belowX s (sumW l)) l 0
theorem weight_bd (n : Int) : 0 ≤ weight n ∧ weight n ≤ 4294967296 := by unfold weight; split <;> (try split) <;> omega
theorem sumW_snoc (l : List Int) (x : Int) : sumW (l ++ [x]) = sumW l + weight x := by simp [sumW]
theorem sumW_bd : ∀ l : List Int, 0 ≤ sumW l ∧ sumW l ≤ 4294967296 * l.length
  | [] => by simp [sumW]
  | x :: r => by
    have h := sumW_bd r
    have hx := weight_bd x
    have e : sumW (x :: r) = weight x + sumW r := by simp [sumW]
    rw [e, List.length_cons]
    omega
theorem getD_take_succ (l : List Int) (k : Nat) (h : k < l.length) : l.take (k + 1) = l.take k ++ [l.getD k 0] := by
  rw [List.take_succ_eq_append_getElem h]; simp [List.getD, h]
theorem sumW_take (l : List Int) (k : Nat) (h : k < l.length) : sumW (l.take (k + 1)) = sumW (l.take k) + weight (l.getD k 0) := by
  rw [getD_take_succ l k h, sumW_snoc]
theorem sumW_take_bd (l : List Int) (k : Nat) (h : k ≤ 4096) : 0 ≤ sumW (l.take k) ∧ sumW (l.take k) ≤ 17592186044416 := by
  have := sumW_bd (l.take k)
  have hl : (l.take k).length ≤ k := List.length_take_le _ _
  omega
theorem drop_getD (l : List Int) (k : Nat) (h : k < l.length) : l.drop k = l.getD k 0 :: l.drop (k + 1) := by
  rw [List.drop_eq_getElem_cons h]; simp [List.getD, h]
theorem pickAt_hit (x : Int) (l : List Int) (k : Nat) (h : k < l.length) (hx : x < weight (l.getD k 0)) : pickAt x (l.drop k) k = k := by
  rw [drop_getD l k h, pickAt, if_pos hx]
theorem pickAt_miss (x : Int) (l : List Int) (k : Nat) (h : k < l.length) (hx : ¬ x < weight (l.getD k 0)) : pickAt x (l.drop k) k = pickAt (x - weight (l.getD k 0)) (l.drop (k + 1)) (k + 1 : Nat) := by
  rw [drop_getD l k h, pickAt, if_neg hx]; rfl
theorem pickAt_end (x : Int) (l : List Int) (i : Int) : pickAt x (l.drop l.length) i = -1 := by simp [pickAt]
end Go.Proofs.Ytaekpkedjeefcaa
