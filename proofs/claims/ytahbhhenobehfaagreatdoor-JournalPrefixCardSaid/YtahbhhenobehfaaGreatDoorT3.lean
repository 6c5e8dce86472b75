/-
  The walks of Number and number of package term.
-/
import Derived.Test.YtahbhhenobehfaaGreatDoorT2
namespace Go.Proofs.YtahbhhenobehfaaGreatDoor
open Go.ChangeShapes Go.WideShapes Go.ChangeAt Go.RowKit

def numV (l : List UInt8) : Int := if numB l = true then valL l else 0
def NumSaid (l : List UInt8) (w : World) (e : Ending) (w' : World) : Prop := e = .returned (.tuple #[.int .i64 (numV l), .bool (numB l)]) ∧ w = w'
theorem num_no {l : List UInt8} {w : World} (h : numB l = false) : NumSaid l w (.returned (.tuple #[.int .i64 0, .bool false])) w := ⟨by unfold numV; rw [h]; rfl, rfl⟩
theorem num_yes {l : List UInt8} {w : World} {v : Int} (h : numB l = true) (hv : v = valL l) : NumSaid l w (.returned (.tuple #[.int .i64 v, .bool true])) w := ⟨by unfold numV; rw [h, hv]; rfl, rfl⟩
set_option maxRecDepth 20000 in
set_option maxHeartbeats 4000000 in
theorem number_loop (s : ByteArray) (w : World) (h1 : 1 ≤ s.size) (h4 : s.size ≤ 4) (hz : ((bt s.data.toList 0 == 48) = false) ∨ s.size = 1) :
    Calls Tryz.prog 186 #[.string s] w (NumSaid s.data.toList w) := by
  have hsz := hid (blen s)
  have g1 : ¬ (s.size : Int) < 1 := by omega
  have g2 : ¬ (4 : Int) < s.size := by omega
  have hs0 : 0 < s.size := by omega
  have hb0 := byte_bt s 0 hs0
  have hok := hid (fun h => numB_ok (l := s.data.toList) (by rw [hsz.out]; omega) (by rw [hsz.out]; omega) (by rw [hsz.out]; exact hz) h)
  have hcase : (((s[0]).toNat : Int) == 48) = false ∨ ((((s[0]).toNat : Int) == 48) = true ∧ ¬ (1 : Int) < s.size) := by
    rw [hb0]
    cases e : (bt s.data.toList 0 == 48)
    · exact Or.inl rfl
    · rcases hz with hz | hz
      · rw [e] at hz; cases hz
      · exact Or.inr ⟨rfl, by omega⟩
  clear hz hb0
  rcases hcase with hc | ⟨hc, hc1⟩
  all_goals
    go_enter Tryz.func186, Tryz.ntmps186
    go_wp2
    go_loop [4, 5] (fun v i => ∃ (k : Nat) (V : Int), k ≤ s.size ∧ i = .int .i64 k ∧ v = .int .i64 V ∧ 0 ≤ V ∧ V ≤ 9999 ∧ Hid (V = valL (s.data.toList.take k)) ∧ Hid (∀ j, j < k → 48 ≤ bt s.data.toList j ∧ bt s.data.toList j ≤ 57)) (fun _ i => s.size - (intOf i).toNat)
    case atStart => exact ⟨0, 0, Nat.zero_le _, rfl, rfl, Int.le_refl _, by omega, hid rfl, hid (fun j hj => by omega)⟩
    case round =>
      obtain ⟨k, V, hk, rfl, rfl, hV0, hV1, hV, hA⟩ := hrel
      by_cases hlt : k < s.size
      · have hk0 : (0 : Int) ≤ k := by omega
        have hkn : (k : Int) < s.size := by omega
        have hbk := hid (byte_bt s k hlt)
        obtain ⟨x, ex⟩ : ∃ x : Int, x = ((s[k]).toNat : Int) := ⟨_, rfl⟩
        have hx := hid (ex.trans hbk.out)
        have hx0 : 0 ≤ x := by omega
        have hx1 : x ≤ 255 := by have := (s[k]).toNat_lt; omega
        have Ex := hid ex
        by_cases c1 : x < 48
        · have hr := hid (numB_bad (l := s.data.toList) k (by rw [hsz.out]; exact hlt) (Or.inl (by rw [← hx.out]; omega)))
          have c1' : ((s[k]).toNat : Int) < 48 := by omega
          clear ex
          go_wp2
          go_ret2
          exact num_no hr.out
        by_cases c2 : 57 < x
        · have hr := hid (numB_bad (l := s.data.toList) k (by rw [hsz.out]; exact hlt) (Or.inr (by rw [← hx.out]; omega)))
          have c1' : ¬ ((s[k]).toNat : Int) < 48 := by omega
          have c2' : (57 : Int) < ((s[k]).toNat : Int) := by omega
          clear ex
          go_wp2
          go_ret2
          exact num_no hr.out
        · have c1' : (48 : Int) ≤ ((s[k]).toNat : Int) := by omega
          have c2' : ((s[k]).toNat : Int) ≤ (57 : Int) := by omega
          have hst := hid (valL_take s.data.toList k (by rw [hsz.out]; exact hlt))
          have hA2 := hid (show ∀ j, j < k + 1 → 48 ≤ bt s.data.toList j ∧ bt s.data.toList j ≤ 57 from fun j hj => by
            by_cases e : j < k
            · exact hA.out j e
            · rw [show j = k by omega, ← hx.out]; omega)
          have hV2 := hid (show 10 * V + (((s[k]).toNat : Int) - 48) = valL (s.data.toList.take (k + 1)) by rw [hst.out, ← hV.out, hbk.out])
          have hbd := fun h => valL_bd s.data.toList h
          have hbd2 : 0 ≤ 10 * V + (((s[k]).toNat : Int) - 48) ∧ 10 * V + (((s[k]).toNat : Int) - 48) ≤ 9999 := by
            rw [hV2.out]
            have e : valL (s.data.toList.take (k + 1)) = valL ((s.data.toList.take (k + 1)).take (k + 1)) := by rw [List.take_take, Nat.min_self]
            rw [e]
            have hl : (s.data.toList.take (k + 1)).length = k + 1 := by rw [List.length_take, hsz.out]; omega
            refine valL_bd _ (fun i hi => ?_) (k + 1) (by omega) (by omega)
            rw [hl] at hi
            have := hA2.out i hi
            have e2 : bt (s.data.toList.take (k + 1)) i = bt s.data.toList i := by unfold bt; rw [List.getD_eq_getElem?_getD, List.getElem?_take_of_lt hi, List.getD_eq_getElem?_getD]
            rw [e2]; exact this
          clear ex hbd
          go_wp2
          go_round
          case rel => exact ⟨k + 1, _, by omega, by go_num, rfl, hbd2.1, hbd2.2, hV2, hA2⟩
          case measure => simp [intOf]; omega
      · have hke : k = s.size := by omega
        have hN := hid (hok.out (fun i hi => hA.out i (by rw [hsz.out] at hi; omega)))
        have hVf := hid (show V = valL s.data.toList by rw [hV.out, List.take_of_length_le (by rw [hsz.out]; omega)])
        clear hke
        go_wp2
        go_ret2
        exact num_yes hN.out hVf.out
set_option maxRecDepth 20000 in
set_option maxHeartbeats 1000000 in
theorem Number_any (s : ByteArray) (w : World) (hs : s.size ≤ maxLen) :
    Calls Tryz.prog 186 #[.string s] w (NumSaid s.data.toList w) := by
  unfold maxLen at hs
  by_cases h1 : (s.size : Int) < 1
  · have hr := hid (numB_short (l := s.data.toList) (by rw [blen]; omega))
    go_enter Tryz.func186, Tryz.ntmps186
    go_wp2
    go_ret2
    exact num_no hr.out
  by_cases h4 : (4 : Int) < s.size
  · have hr := hid (numB_short (l := s.data.toList) (by rw [blen]; omega))
    go_enter Tryz.func186, Tryz.ntmps186
    go_wp2
    go_ret2
    exact num_no hr.out
  have hs0 : 0 < s.size := by omega
  cases e : (bt s.data.toList 0 == 48)
  · exact number_loop s w (by omega) (by omega) (Or.inl e)
  · by_cases hone : s.size = 1
    · exact number_loop s w (by omega) (by omega) (Or.inr hone)
    · have hr := hid (numB_zero (l := s.data.toList) e (by rw [blen]; omega))
      have hc : (((s[0]).toNat : Int) == 48) = true := by rw [byte_bt s 0 hs0]; exact e
      have hc1 : (1 : Int) < s.size := by omega
      clear e
      go_enter Tryz.func186, Tryz.ntmps186
      go_wp2
      go_ret2
      exact num_no hr.out
theorem tnumber_any (s : ByteArray) (w : World) (hs : s.size ≤ maxLen) :
    Calls Tryz.prog 154 #[.string s] w fun e w' => e = .returned (.bool (numB s.data.toList)) ∧ w = w' := by
  go_enter Tryz.func154, Tryz.ntmps154
  go_wp2_with fail
  refine (Number_any s _ hs).mono ?_
  rintro e w1 ⟨rfl, rfl⟩
  go_wp2
  go_ret
  exact ⟨rfl, rfl⟩
end Go.Proofs.YtahbhhenobehfaaGreatDoor
