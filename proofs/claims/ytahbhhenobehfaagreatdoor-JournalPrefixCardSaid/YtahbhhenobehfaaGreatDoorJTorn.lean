/-
  The plain law of JournalTorn: of frames that are cut anywhere exactly the whole ones are found, and a first frame with a changed byte is not found as it was. No program in sight.
-/
import Derived.Test.YtahbhhenobehfaaGreatDoorJPlain
import Derived.Test.YtahbhhenobehfaaGreatDoorJBits
import Derived.Test.YtahbhhenobehfaaGreatDoorJ3
namespace Go.Proofs.YtahbhhenobehfaaGreatDoor
open Go.RowKit

def allL : List (List UInt8) → List UInt8
  | [] => []
  | p :: r => frameL p ++ allL r
theorem allL_append (a b : List (List UInt8)) : allL (a ++ b) = allL a ++ allL b := by
  induction a with
  | nil => rfl
  | cons p r ih => simp [allL, ih]
theorem allL_snoc (l : List (List UInt8)) (k : Nat) (hk : k < l.length) : allL (l.take (k + 1)) = allL (l.take k) ++ frameL (l.getD k []) := by
  rw [List.take_succ_eq_append_getElem hk, allL_append, List.getD_eq_getElem?_getD, List.getElem?_eq_getElem hk]
  simp [allL]
theorem allL_mono (l : List (List UInt8)) (i k : Nat) (h : i ≤ k) : (allL (l.take i)).length ≤ (allL (l.take k)).length := by
  have e : l.take k = l.take i ++ (l.drop i).take (k - i) := by
    rw [← List.take_add, show i + (k - i) = k from by omega]
  rw [e, allL_append, List.length_append]
  omega
theorem getD_append (a b : List UInt8) (i : Nat) (h : i < a.length) : (a ++ b).getD i 0 = a.getD i 0 := by
  simp [List.getD, List.getElem?_append_left h]
theorem frame_n (p : List UInt8) (hp : p.length ≤ 60000) : (p.length : Int) = bt (frameL p) 0 * 256 + bt (frameL p) 1 := by
  have h0 : bt (frameL p) 0 = ((p.length : Int) / 256) % 256 := byte_toNat _
  have h1 : bt (frameL p) 1 = (p.length : Int) % 256 := byte_toNat _
  omega
theorem bt_append (a b : List UInt8) (i : Nat) (h : i < a.length) : bt (a ++ b) i = bt a i := by unfold bt; rw [getD_append a b i h]
theorem cutL_frame (p y : List UInt8) (hp : p.length ≤ 60000) : cutL (frameL p ++ y) = some (p, y) := by
  have hl := frameL_length p
  have hd : (frameL p).drop 6 = p := by unfold frameL; rw [List.drop_append_of_le_length (by rw [headL_length]; omega)]; simp [headL]
  rw [cutL_of _ p.length (by rw [bt_append _ _ 0 (by omega), bt_append _ _ 1 (by omega)]; exact frame_n p hp) (by rw [List.length_append]; omega)]
  have e1 : ((frameL p ++ y).drop 6).take p.length = p := by
    rw [List.drop_append_of_le_length (by omega), hd]; simp
  have e2 : (frameL p ++ y).take (6 + p.length) = frameL p := by
    rw [List.take_append_of_le_length (by omega), List.take_of_length_le (by omega)]
  have e3 : (frameL p ++ y).drop (6 + p.length) = y := by
    rw [show 6 + p.length = (frameL p).length from by omega]; simp
  rw [e1, e2, e3, if_pos rfl]
theorem cutL_part (p y : List UInt8) (c : Nat) (hp : p.length ≤ 60000) (hc : c < p.length + 6) : cutL ((frameL p ++ y).take c) = none := by
  have hl := frameL_length p
  by_cases h6 : c < 6
  · exact cutL_short _ (by rw [List.length_take]; omega)
  · have hb : ∀ i, i < 6 → bt ((frameL p ++ y).take c) i = bt (frameL p) i := fun i hi => by
      rw [← bt_append (frameL p) y i (by omega)]
      unfold bt
      simp [List.getD, show i < c from by omega]
    refine cutL_torn _ p.length ?_ (by rw [List.length_take, List.length_append]; omega)
    rw [hb 0 (by omega), hb 1 (by omega)]
    exact frame_n p hp
/-- Of frames that end anywhere exactly the whole ones are found. -/
theorem torn : ∀ (ls : List (List UInt8)) (c m : Nat), (∀ p ∈ ls, p.length ≤ 60000) → m ≤ ls.length → (allL (ls.take m)).length ≤ c → (m < ls.length → c < (allL (ls.take (m + 1))).length) → c ≤ (allL ls).length → (scanL ((allL ls).take c)).1 = ls.take m
  | [], c, m, _, hm, _, _, _ => by
    have : cutL (([] : List UInt8).take c) = none := cutL_short _ (by simp)
    simp only [allL]
    rw [scanL_none this]
    simp
  | p :: r, c, 0, hp, _, _, h2, _ => by
    have hc := h2 (by simp)
    simp only [List.take_succ_cons, List.take_zero, allL, List.append_nil] at hc
    rw [frameL_length] at hc
    simp only [allL]
    rw [scanL_none (cutL_part p (allL r) c (hp p (by simp)) hc)]
    rfl
  | p :: r, c, m + 1, hp, hm, h1, h2, h3 => by
    have hl := frameL_length p
    simp only [List.take_succ_cons, allL, List.length_append, List.length_cons] at h1 h2 h3 hm
    have e : (frameL p ++ allL r).take c = frameL p ++ (allL r).take (c - (frameL p).length) := by
      rw [List.take_append]
      rw [List.take_of_length_le (l := frameL p) (by omega)]
    simp only [allL]
    rw [e, scanL_some (cutL_frame p _ (hp p (by simp)))]
    have ih := torn r (c - (frameL p).length) m (fun q hq => hp q (by simp [hq])) (by omega) (by omega) (fun hlt => by have := h2 (by omega); omega) (by omega)
    simp only [List.take_succ_cons]
    rw [ih]
theorem cutL_take {x p r : List UInt8} (h : cutL x = some (p, r)) : frameL p = x.take (6 + p.length) := by
  have h0 := bt_bd x 0
  have h1 := bt_bd x 1
  have hr := cutL_rest h
  have hc := h
  unfold cutL at hc
  split at hc
  · cases hc
  · split at hc
    · cases hc
    · rename_i g6 gn
      have e := cutL_of x (bt x 0 * 256 + bt x 1).toNat (by omega) (by omega)
      rw [h] at e
      split at e
      · rename_i hf
        injection e with e
        injection e with e1 e2
        have hlen : p.length = (bt x 0 * 256 + bt x 1).toNat := by rw [e1, List.length_take, List.length_drop]; omega
        rw [← e1] at hf
        rw [hf, hlen]
      · cases e
/-- A first frame with another byte is not found as it was. -/
theorem spoilt (p : List UInt8) (r : List (List UInt8)) (at' : Nat) (v : UInt8) (hat : at' < p.length + 6) (hv : (v.toNat : Int) ≠ bt (allL (p :: r)) at') :
    (scanL ((allL (p :: r)).set at' v)).1 = [] ∨ ∃ q t, (scanL ((allL (p :: r)).set at' v)).1 = q :: t ∧ q ≠ p := by
  cases hc : cutL ((allL (p :: r)).set at' v) with
  | none => exact .inl (by rw [scanL_none hc])
  | some x =>
    obtain ⟨q, t⟩ := x
    refine .inr ⟨q, _, by rw [scanL_some hc], ?_⟩
    rintro rfl
    have ht := cutL_take hc
    have hl := frameL_length q
    have h1 : (frameL q)[at']? = some v := by
      rw [ht, List.getElem?_take, if_pos (by omega)]
      rw [List.getElem?_set_self (by simp only [allL, List.length_append]; omega)]
    apply hv
    have h2 : bt (allL (q :: r)) at' = bt (frameL q) at' := bt_append _ _ _ (by omega)
    rw [h2]
    unfold bt
    rw [List.getD_eq_getElem?_getD, h1]
    rfl
theorem ofInt_u8 (a : Nat) (ha : a < 256) : (BitVec.ofInt 8 (a : Int)).toNat = a := by
  rw [BitVec.ofInt_natCast, BitVec.toNat_ofNat]; exact Nat.mod_eq_of_lt (by omega)
theorem xor_u8 (a b : Int) (ha : 0 ≤ a ∧ a ≤ 255) (hb : 0 ≤ b ∧ b ≤ 255) (h0 : b ≠ 0) : 0 ≤ bits .xor .u8 a b ∧ bits .xor .u8 a b ≤ 255 ∧ bits .xor .u8 a b ≠ a := by
  obtain ⟨x, rfl⟩ : ∃ x : Nat, a = x := ⟨a.toNat, by omega⟩
  obtain ⟨y, rfl⟩ : ∃ y : Nat, b = y := ⟨b.toNat, by omega⟩
  have hx : x ^^^ y < 2 ^ 8 := Nat.xor_lt_two_pow (by omega) (by omega)
  have e : bits .xor .u8 (x : Int) (y : Int) = ((x ^^^ y : Nat) : Int) := by
    show IntKind.u8.wrap ((BitVec.ofInt 8 (x : Int) ^^^ BitVec.ofInt 8 (y : Int)).toNat : Int) = _
    rw [BitVec.toNat_xor, ofInt_u8 x (by omega), ofInt_u8 y (by omega), IntKind.wrap_u8]
    omega
  rw [e]
  refine ⟨by omega, by omega, fun h => h0 ?_⟩
  have h' : x ^^^ y = x := by omega
  have : x ^^^ (x ^^^ y) = x ^^^ x := by rw [h']
  rw [← Nat.xor_assoc, Nat.xor_self, Nat.zero_xor] at this
  omega
end Go.Proofs.YtahbhhenobehfaaGreatDoor
