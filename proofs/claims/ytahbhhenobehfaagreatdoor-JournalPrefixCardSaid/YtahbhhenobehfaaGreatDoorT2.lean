/-
  The walks of Name, Number and number of package term.
-/
import Derived.Test.YtahbhhenobehfaaGreatDoorT1
namespace Go.Proofs.YtahbhhenobehfaaGreatDoor
open Go.ChangeShapes Go.WideShapes Go.ChangeAt Go.RowKit

set_option maxRecDepth 20000 in
set_option maxHeartbeats 1000000 in
theorem tname_any (s : ByteArray) (w : World) (hs : s.size ≤ maxLen) :
    Calls Tryz.prog 64 #[.string s] w fun e w' => e = .returned (.bool (nameB s.data.toList)) ∧ Below w.heap.size w w' := by
  have e0 := ByteArray.toList_eq s
  have hN := hid (show nameB s.data.toList = (spelledB s.data.toList [(97, 122), (48, 57), (45, 45)] && !wordB s.data.toList) from rfl)
  have hW := hid (show wordB s.data.toList = (s.data.toList == [105, 102] || s.data.toList == [97, 110, 100] || s.data.toList == [110, 111, 116]) from rfl)
  obtain ⟨x1, hx1⟩ : ∃ x, (s.data.toList == [105, 102]) = x := ⟨_, rfl⟩
  obtain ⟨x2, hx2⟩ : ∃ x, (s.data.toList == [97, 110, 100]) = x := ⟨_, rfl⟩
  obtain ⟨x3, hx3⟩ : ∃ x, (s.data.toList == [110, 111, 116]) = x := ⟨_, rfl⟩
  have f1 : (s.toList == [105, 102]) = x1 := by rw [e0]; exact hx1
  have f2 : (s.toList == [97, 110, 100]) = x2 := by rw [e0]; exact hx2
  have f3 : (s.toList == [110, 111, 116]) = x3 := by rw [e0]; exact hx3
  have hW2 := hid (hW.out.trans (by rw [hx1, hx2, hx3]))
  clear e0 hx1 hx2 hx3 hW
  have F1 := hid f1
  have F2 := hid f2
  have F3 := hid f3
  clear f1 f2 f3
  go_enter Tryz.func64, Tryz.ntmps64
  go_wp2_with fail
  refine (spelled_any s (97, 122) (48, 57) (45, 45) _ hs).mono ?_
  rintro e w1 ⟨rfl, o1⟩
  obtain ⟨B, eB⟩ : ∃ B, spelledB s.data.toList [(97, 122), (48, 57), (45, 45)] = B := ⟨_, rfl⟩
  rw [eB]
  have hR := hid (show nameB s.data.toList = (B && !(x1 || x2 || x3)) by rw [hN.out, eB, hW2.out])
  clear eB hN hW2
  have g1 := F1.out
  have g2 := F2.out
  have g3 := F3.out
  cases B <;> cases x1 <;> cases x2 <;> cases x3
  all_goals
    go_wp2
    go_ret
    exact ⟨ret_bool hR.out.symm, o1⟩
theorem numB_short {l : List UInt8} (h : l.length < 1 ∨ 4 < l.length) : numB l = false := by
  unfold numB
  rcases h with h | h
  · rw [decide_eq_false (by omega)]; rfl
  · rw [decide_eq_false (p := l.length ≤ 4) (by omega)]; simp
theorem numB_zero {l : List UInt8} (h : (bt l 0 == 48) = true) (h1 : 1 < l.length) : numB l = false := by
  unfold numB; rw [h, decide_eq_true h1]; simp
theorem digB_bt (l : List UInt8) (k : Nat) (hk : k < l.length) : digB l[k] = (decide (48 ≤ bt l k) && decide (bt l k ≤ 57)) := by rw [bt_get l k hk]; rfl
theorem numB_bad {l : List UInt8} (k : Nat) (hk : k < l.length) (h : ¬ 48 ≤ bt l k ∨ ¬ bt l k ≤ 57) : numB l = false := by
  unfold numB
  rw [all_bad k hk (by rw [digB_bt l k hk]; rcases h with h | h <;> simp [h])]; simp
theorem numB_ok {l : List UInt8} (h1 : 1 ≤ l.length) (h2 : l.length ≤ 4) (h3 : (bt l 0 == 48) = false ∨ l.length = 1) (h : ∀ i, i < l.length → 48 ≤ bt l i ∧ bt l i ≤ 57) : numB l = true := by
  unfold numB
  rw [decide_eq_true h1, decide_eq_true h2, all_to fun i hi => by rw [digB_bt l i hi]; have := h i hi; simp [this]]
  rcases h3 with h3 | h3
  · rw [h3]; rfl
  · rw [h3]; simp
theorem valL_take (l : List UInt8) (k : Nat) (hk : k < l.length) : valL (l.take (k + 1)) = 10 * valL (l.take k) + (bt l k - 48) := by
  unfold valL
  rw [List.take_succ_eq_append_getElem hk, List.foldl_append, bt_get l k hk]; rfl
theorem valL_bd (l : List UInt8) (h : ∀ i, i < l.length → 48 ≤ bt l i ∧ bt l i ≤ 57) : ∀ k, k ≤ l.length → k ≤ 4 → 0 ≤ valL (l.take k) ∧ valL (l.take k) ≤ 9999
  | 0, _, _ => by simp [valL]
  | 1, h1, _ => by
    rw [valL_take l 0 (by omega)]
    have := h 0 (by omega)
    simp [valL]; omega
  | 2, h1, _ => by
    rw [valL_take l 1 (by omega), valL_take l 0 (by omega)]
    have := h 0 (by omega)
    have := h 1 (by omega)
    simp [valL]; omega
  | 3, h1, _ => by
    rw [valL_take l 2 (by omega), valL_take l 1 (by omega), valL_take l 0 (by omega)]
    have := h 0 (by omega)
    have := h 1 (by omega)
    have := h 2 (by omega)
    simp [valL]; omega
  | 4, h1, _ => by
    rw [valL_take l 3 (by omega), valL_take l 2 (by omega), valL_take l 1 (by omega), valL_take l 0 (by omega)]
    have := h 0 (by omega)
    have := h 1 (by omega)
    have := h 2 (by omega)
    have := h 3 (by omega)
    simp [valL]; omega
  | k + 5, _, h2 => by omega
end Go.Proofs.YtahbhhenobehfaaGreatDoor
