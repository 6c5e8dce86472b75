/-
  The walks of Name, Number, IsNumber of the reference of terms.
-/
import Derived.Test.YtahbhhenobehfaaGreatDoorM10
namespace Go.Proofs.YtahbhhenobehfaaGreatDoor
open Go.ChangeShapes Go.WideShapes Go.ChangeAt Go.RowKit

def lowI (x : Int) : Bool := decide (97 ≤ x) && decide (x ≤ 122)
def digI (x : Int) : Bool := decide (48 ≤ x) && decide (x ≤ 57)
theorem inB_name (x : Int) : inB x nameSp = (lowI x || digI x || (x == 45)) := by
  have e : (x == 45) = (decide (45 ≤ x) && decide (x ≤ 45)) := by
    rw [Bool.eq_iff_iff]; simp; omega
  rw [e]
  simp [inB, nameSp, lowI, digI, Bool.or_assoc]
theorem inB_low (x : Int) : inB x (nameSp.take 1) = lowI x := by simp [inB, nameSp, lowI]
theorem lower_any (x : Int) (w : World) : Calls Tryz.prog 56 #[.int .u8 x] w fun e w' => e = .returned (.bool (lowI x)) ∧ w = w' := by
  by_cases h1 : 97 ≤ x
  · by_cases h2 : x ≤ 122
    · have hr := hid (show lowI x = true by simp [lowI, h1, h2])
      go_enter Tryz.func56, Tryz.ntmps56
      go_wp2
      go_ret
      exact ⟨ret_bool hr.out.symm, rfl⟩
    · have hr := hid (show lowI x = false by simp [lowI, h2])
      go_enter Tryz.func56, Tryz.ntmps56
      go_wp2
      go_ret
      exact ⟨ret_bool hr.out.symm, rfl⟩
  · have hr := hid (show lowI x = false by simp [lowI, h1])
    go_enter Tryz.func56, Tryz.ntmps56
    go_wp2
    go_ret
    exact ⟨ret_bool hr.out.symm, rfl⟩
theorem digit_any (x : Int) (w : World) : Calls Tryz.prog 57 #[.int .u8 x] w fun e w' => e = .returned (.bool (digI x)) ∧ w = w' := by
  by_cases h1 : 48 ≤ x
  · by_cases h2 : x ≤ 57
    · have hr := hid (show digI x = true by simp [digI, h1, h2])
      go_enter Tryz.func57, Tryz.ntmps57
      go_wp2
      go_ret
      exact ⟨ret_bool hr.out.symm, rfl⟩
    · have hr := hid (show digI x = false by simp [digI, h2])
      go_enter Tryz.func57, Tryz.ntmps57
      go_wp2
      go_ret
      exact ⟨ret_bool hr.out.symm, rfl⟩
  · have hr := hid (show digI x = false by simp [digI, h1])
    go_enter Tryz.func57, Tryz.ntmps57
    go_wp2
    go_ret
    exact ⟨ret_bool hr.out.symm, rfl⟩
theorem nameB_not {l : List UInt8} (h : spelledB l nameSp = false) : nameB l = false := by unfold nameB; rw [h]; rfl
theorem nameB_word {l : List UInt8} (h : wordB l = true) : nameB l = false := by unfold nameB; rw [h]; simp
theorem nameB_yes {l : List UInt8} (h : spelledB l nameSp = true) (h2 : wordB l = false) : nameB l = true := by unfold nameB; rw [h, h2]; rfl
set_option maxRecDepth 20000 in
set_option maxHeartbeats 4000000 in
theorem rname_any (s : ByteArray) (w : World) (hs : s.size ≤ maxLen) :
    Calls Tryz.prog 24 #[.string s] w fun e w' => e = .returned (.bool (nameB s.data.toList)) ∧ w = w' := by
  unfold maxLen at hs
  by_cases h1 : (s.size : Int) < 1
  · have hr := hid (nameB_not (spelledB_short (l := s.data.toList) (by rw [blen]; omega)))
    go_enter Tryz.func24, Tryz.ntmps24
    go_wp2
    go_ret
    exact ⟨ret_bool hr.out.symm, rfl⟩
  by_cases h4 : (16 : Int) < s.size
  · have hr := hid (nameB_not (spelledB_short (l := s.data.toList) (by rw [blen]; omega)))
    go_enter Tryz.func24, Tryz.ntmps24
    go_wp2
    go_ret
    exact ⟨ret_bool hr.out.symm, rfl⟩
  have hs0 : 0 < s.size := by omega
  have hb0 := hid (byte_bt s 0 hs0)
  have hsz := hid (blen s)
  have e0 := ByteArray.toList_eq s
  have hW := hid (show wordB s.data.toList = (s.data.toList == [105, 102] || s.data.toList == [97, 110, 100] || s.data.toList == [110, 111, 116]) from rfl)
  have hlow := hid (inB_low (bt s.data.toList 0))
  obtain ⟨x1, hx1⟩ : ∃ x, (s.data.toList == [105, 102]) = x := ⟨_, rfl⟩
  obtain ⟨x2, hx2⟩ : ∃ x, (s.data.toList == [97, 110, 100]) = x := ⟨_, rfl⟩
  obtain ⟨x3, hx3⟩ : ∃ x, (s.data.toList == [110, 111, 116]) = x := ⟨_, rfl⟩
  have f1 : (s.toList == [105, 102]) = x1 := by rw [e0]; exact hx1
  have f2 : (s.toList == [97, 110, 100]) = x2 := by rw [e0]; exact hx2
  have f3 : (s.toList == [110, 111, 116]) = x3 := by rw [e0]; exact hx3
  have hW2 := hid (hW.out.trans (by rw [hx1, hx2, hx3]))
  clear e0 hx1 hx2 hx3 hW
  have F1 := hid f1
  have F2 := hid f2
  have F3 := hid f3
  clear f1 f2 f3
  go_enter Tryz.func24, Tryz.ntmps24
  go_wp2_with fail
  refine (lower_any _ _).mono ?_
  rintro e w1 ⟨rfl, rfl⟩
  rw [hb0.out]
  obtain ⟨B, eB⟩ : ∃ B, lowI (bt s.data.toList 0) = B := ⟨_, rfl⟩
  rw [eB]
  have hB := hid eB
  clear eB
  cases B
  · have hr := hid (nameB_not (spelledB_first (l := s.data.toList) (sp := nameSp) (by rw [hlow.out]; exact hB.out)))
    go_wp2
    go_ret
    exact ⟨ret_bool hr.out.symm, rfl⟩
  have g1 := F1.out
  have g2 := F2.out
  have g3 := F3.out
  by_cases hword : (x1 || x2 || x3) = true
  · have hr := hid (nameB_word (l := s.data.toList) (by rw [hW2.out]; exact hword))
    cases x1 <;> cases x2 <;> cases x3
    all_goals first | (exact absurd hword (by decide)) | skip
    all_goals
      clear hword
      go_wp2
      go_ret
      exact ⟨ret_bool hr.out.symm, rfl⟩
  · have hw0 : x1 = false ∧ x2 = false ∧ x3 = false := by cases x1 <;> cases x2 <;> cases x3 <;> simp_all
    obtain ⟨rfl, rfl, rfl⟩ := hw0
    clear hword
    go_wp2
    go_loop [32] (fun i => ∃ k : Nat, k ≤ s.size ∧ i = .int .i64 k ∧ Hid (∀ j, j < k → inB (bt s.data.toList j) nameSp = true)) (fun i => s.size - (intOf i).toNat)
    case atStart => exact ⟨0, Nat.zero_le _, rfl, hid (fun j hj => by omega)⟩
    case round =>
      obtain ⟨k, hk, rfl, hA⟩ := hrel
      by_cases hlt : k < s.size
      · have hk0 : (0 : Int) ≤ k := by omega
        have hkn : (k : Int) < s.size := by omega
        have hbk := hid (byte_bt s k hlt)
        have hin := hid (inB_name (bt s.data.toList k))
        go_wp2_with fail
        refine (lower_any _ _).mono ?_
        rintro e w2 ⟨rfl, rfl⟩
        rw [hbk.out]
        obtain ⟨B1, eB1⟩ : ∃ B, lowI (bt s.data.toList k) = B := ⟨_, rfl⟩
        rw [eB1]
        have hB1 := hid eB1
        clear eB1
        have hgo : inB (bt s.data.toList k) nameSp = true → Hid (∀ j, j < k + 1 → inB (bt s.data.toList j) nameSp = true) := fun h => hid fun j hj => by
          by_cases e : j < k
          · exact hA.out j e
          · rw [show j = k by omega]; exact h
        have Hgo := hid hgo
        clear hgo
        cases B1
        · go_wp2_with fail
          refine (digit_any _ _).mono ?_
          rintro e w3 ⟨rfl, rfl⟩
          rw [hbk.out]
          obtain ⟨B2, eB2⟩ : ∃ B, digI (bt s.data.toList k) = B := ⟨_, rfl⟩
          rw [eB2]
          have hB2 := hid eB2
          clear eB2
          cases B2
          · obtain ⟨B3, eB3⟩ : ∃ B, (bt s.data.toList k == 45) = B := ⟨_, rfl⟩
            have hg3 : (((s[k]).toNat : Int) == 45) = B3 := by rw [hbk.out]; exact eB3
            have hB3 := hid eB3
            clear eB3
            cases B3
            · have hr := hid (nameB_not (spelledB_bad (l := s.data.toList) (sp := nameSp) k (by rw [hsz.out]; exact hlt) (by rw [hin.out, hB1.out, hB2.out, hB3.out]; rfl)))
              have hg4 : (((s[k]).toNat : Int) != 45) = true := by rw [bne, hg3]; rfl
              go_wp2
              go_ret
              exact ⟨ret_bool hr.out.symm, rfl⟩
            · have hA2 := Hgo.out (by rw [hin.out, hB3.out]; simp)
              have hg4 : (((s[k]).toNat : Int) != 45) = false := by rw [bne, hg3]; rfl
              go_wp2
              go_round
              case rel => exact ⟨k + 1, by omega, by go_num, hA2⟩
              case measure => simp [intOf]; omega
          · have hA2 := Hgo.out (by rw [hin.out, hB2.out]; simp)
            go_wp2
            go_round
            case rel => exact ⟨k + 1, by omega, by go_num, hA2⟩
            case measure => simp [intOf]; omega
        · have hA2 := Hgo.out (by rw [hin.out, hB1.out]; simp)
          go_wp2
          go_round
          case rel => exact ⟨k + 1, by omega, by go_num, hA2⟩
          case measure => simp [intOf]; omega
      · have hke : k = s.size := by omega
        have hr := hid (nameB_yes (l := s.data.toList) (spelledB_ok (by rw [hsz.out]; omega) (by rw [hsz.out]; omega) (by rw [hlow.out]; exact hB.out) (fun j hj => hA.out j (by rw [hsz.out] at hj; omega))) (by rw [hW2.out]; rfl))
        clear hke
        go_wp2
        go_ret
        exact ⟨ret_bool hr.out.symm, rfl⟩
set_option maxRecDepth 20000 in
set_option maxHeartbeats 4000000 in
theorem rnumber_loop (s : ByteArray) (w : World) (h1 : 1 ≤ s.size) (h4 : s.size ≤ 4) (hz : ((bt s.data.toList 0 == 48) = false) ∨ s.size = 1) :
    Calls Tryz.prog 184 #[.string s] w (NumSaid s.data.toList w) := by
  have hsz := hid (blen s)
  have g1 : ¬ (s.size : Int) < 1 := by omega
  have g2 : ¬ (4 : Int) < s.size := by omega
  have hs0 : 0 < s.size := by omega
  have hb0 := byte_bt s 0 hs0
  have hok := hid (fun h => numB_ok (l := s.data.toList) (by rw [hsz.out]; omega) (by rw [hsz.out]; omega) (by rw [hsz.out]; exact hz) h)
  have hcase : (¬ (1 : Int) < s.size) ∨ ((1 : Int) < s.size ∧ (((s[0]).toNat : Int) == 48) = false) := by
    rw [hb0]
    by_cases e : s.size = 1
    · exact Or.inl (by omega)
    · rcases hz with hz | hz
      · exact Or.inr ⟨by omega, hz⟩
      · exact absurd hz e
  clear hz hb0
  rcases hcase with hc | ⟨hc, hc1⟩
  all_goals
    go_enter Tryz.func184, Tryz.ntmps184
    go_wp2
    go_loop [4, 26] (fun v i => ∃ (k : Nat) (V : Int), k ≤ s.size ∧ i = .int .i64 k ∧ v = .int .i64 V ∧ 0 ≤ V ∧ V ≤ 9999 ∧ Hid (V = valL (s.data.toList.take k)) ∧ Hid (∀ j, j < k → 48 ≤ bt s.data.toList j ∧ bt s.data.toList j ≤ 57)) (fun _ i => s.size - (intOf i).toNat)
    case atStart => exact ⟨0, 0, Nat.zero_le _, rfl, rfl, Int.le_refl _, by omega, hid rfl, hid (fun j hj => by omega)⟩
    case round =>
      obtain ⟨k, V, hk, rfl, rfl, hV0, hV1, hV, hA⟩ := hrel
      by_cases hlt : k < s.size
      · have hk0 : (0 : Int) ≤ k := by omega
        have hkn : (k : Int) < s.size := by omega
        have hbk := hid (byte_bt s k hlt)
        obtain ⟨x, ex⟩ : ∃ x : Int, x = ((s[k]).toNat : Int) := ⟨_, rfl⟩
        have hx := hid (ex.trans hbk.out)
        have hx0 : 0 ≤ x := by omega
        have hx1 : x ≤ 255 := by have := (s[k]).toNat_lt; omega
        have Ex := hid ex
        go_wp2_with fail
        refine (digit_any _ _).mono ?_
        rintro e w2 ⟨rfl, rfl⟩
        rw [← Ex.out]
        by_cases c : 48 ≤ x ∧ x ≤ 57
        · have hd := hid (show digI x = true by simp [digI, c])
          rw [hd.out]
          have c1' : (48 : Int) ≤ ((s[k]).toNat : Int) := by omega
          have c2' : ((s[k]).toNat : Int) ≤ (57 : Int) := by omega
          have hst := hid (valL_take s.data.toList k (by rw [hsz.out]; exact hlt))
          have hA2 := hid (show ∀ j, j < k + 1 → 48 ≤ bt s.data.toList j ∧ bt s.data.toList j ≤ 57 from fun j hj => by
            by_cases e : j < k
            · exact hA.out j e
            · rw [show j = k by omega, ← hx.out]; exact c)
          have hV2 := hid (show 10 * V + (((s[k]).toNat : Int) - 48) = valL (s.data.toList.take (k + 1)) by rw [hst.out, ← hV.out, hbk.out])
          have hbd2 : 0 ≤ 10 * V + (((s[k]).toNat : Int) - 48) ∧ 10 * V + (((s[k]).toNat : Int) - 48) ≤ 9999 := by
            rw [hV2.out]
            have e : valL (s.data.toList.take (k + 1)) = valL ((s.data.toList.take (k + 1)).take (k + 1)) := by rw [List.take_take, Nat.min_self]
            rw [e]
            have hl : (s.data.toList.take (k + 1)).length = k + 1 := by rw [List.length_take, hsz.out]; omega
            refine valL_bd _ (fun i hi => ?_) (k + 1) (by omega) (by omega)
            rw [hl] at hi
            have := hA2.out i hi
            have e2 : bt (s.data.toList.take (k + 1)) i = bt s.data.toList i := by unfold bt; rw [List.getD_eq_getElem?_getD, List.getElem?_take_of_lt hi, List.getD_eq_getElem?_getD]
            rw [e2]; exact this
          clear ex c
          go_wp2
          go_round
          case rel => exact ⟨k + 1, _, by omega, by go_num, rfl, hbd2.1, hbd2.2, hV2, hA2⟩
          case measure => simp [intOf]; omega
        · have hd := hid (show digI x = false by rw [digI]; by_cases h : 48 ≤ x <;> simp [h]; omega)
          rw [hd.out]
          have hr := hid (numB_bad (l := s.data.toList) k (by rw [hsz.out]; exact hlt) (by rw [← hx.out]; omega))
          clear ex c
          go_wp2
          go_ret2
          exact num_no hr.out
      · have hke : k = s.size := by omega
        have hN := hid (hok.out (fun i hi => hA.out i (by rw [hsz.out] at hi; omega)))
        have hVf := hid (show V = valL s.data.toList by rw [hV.out, List.take_of_length_le (by rw [hsz.out]; omega)])
        clear hke
        go_wp2
        go_ret2
        exact num_yes hN.out hVf.out
set_option maxRecDepth 20000 in
set_option maxHeartbeats 1000000 in
theorem rNumber_any (s : ByteArray) (w : World) (hs : s.size ≤ maxLen) :
    Calls Tryz.prog 184 #[.string s] w (NumSaid s.data.toList w) := by
  unfold maxLen at hs
  by_cases h1 : (s.size : Int) < 1
  · have hr := hid (numB_short (l := s.data.toList) (by rw [blen]; omega))
    go_enter Tryz.func184, Tryz.ntmps184
    go_wp2
    go_ret2
    exact num_no hr.out
  by_cases h4 : (4 : Int) < s.size
  · have hr := hid (numB_short (l := s.data.toList) (by rw [blen]; omega))
    go_enter Tryz.func184, Tryz.ntmps184
    go_wp2
    go_ret2
    exact num_no hr.out
  have hs0 : 0 < s.size := by omega
  cases e : (bt s.data.toList 0 == 48)
  · exact rnumber_loop s w (by omega) (by omega) (Or.inl e)
  · by_cases hone : s.size = 1
    · exact rnumber_loop s w (by omega) (by omega) (Or.inr hone)
    · have hr := hid (numB_zero (l := s.data.toList) e (by rw [blen]; omega))
      have hc : (((s[0]).toNat : Int) == 48) = true := by rw [byte_bt s 0 hs0]; exact e
      have hc1 : (1 : Int) < s.size := by omega
      clear e
      go_enter Tryz.func184, Tryz.ntmps184
      go_wp2
      go_ret2
      exact num_no hr.out
theorem rnumber_any (s : ByteArray) (w : World) (hs : s.size ≤ maxLen) :
    Calls Tryz.prog 152 #[.string s] w fun e w' => e = .returned (.bool (numB s.data.toList)) ∧ w = w' := by
  go_enter Tryz.func152, Tryz.ntmps152
  go_wp2_with fail
  refine (rNumber_any s _ hs).mono ?_
  rintro e w1 ⟨rfl, rfl⟩
  go_wp2
  go_ret
  exact ⟨rfl, rfl⟩
end Go.Proofs.YtahbhhenobehfaaGreatDoor
