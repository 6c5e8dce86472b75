/-
  The walks of Variable, Word and kind, of the lexer and of its reference.
-/
import Derived.Test.YtahbhhenobehfaaGreatDoorNU1
import Derived.Test.YtahbhhenobehfaaGreatDoorNT4
import Derived.Test.YtahbhhenobehfaaGreatDoorM12
import Derived.Test.YtahbhhenobehfaaGreatDoorShelf2
namespace Go.Proofs.YtahbhhenobehfaaGreatDoor
open Go.ChangeShapes Go.WideShapes Go.ChangeAt Go.RowKit

def varSp : List (Int × Int) := [(65, 90), (97, 122), (48, 57)]
def varB (l : List UInt8) : Bool := spelledB l varSp
theorem inB_var (x : Int) : inB x varSp = (lowI x || upI x || digI x) := by
  unfold inB varSp lowI upI digI
  simp only [List.any_cons, List.any_nil, Bool.or_false]
  cases (decide (65 ≤ x) && decide (x ≤ 90)) <;> cases (decide (97 ≤ x) && decide (x ≤ 122)) <;> cases (decide (48 ≤ x) && decide (x ≤ 57)) <;> rfl
theorem inB_up (x : Int) : inB x (varSp.take 1) = upI x := by simp [inB, varSp, upI]
def kindL (l : List UInt8) : Int := if wordB l then 5 else if nameB l then 1 else if numB l then 2 else if varB l then 3 else 0
set_option maxRecDepth 20000 in
set_option maxHeartbeats 1000000 in
theorem tvar_any (s : ByteArray) (w : World) (hs : s.size ≤ maxLen) :
    Calls Tryz.prog 155 #[.string s] w fun e w' => e = .returned (.bool (varB s.data.toList)) ∧ Below w.heap.size w w' := by
  have hN := hid (show varB s.data.toList = spelledB s.data.toList [(65, 90), (97, 122), (48, 57)] from rfl)
  go_enter Tryz.func155, Tryz.ntmps155
  go_wp2_with fail
  refine (spelled_any s (65, 90) (97, 122) (48, 57) _ hs).mono ?_
  rintro e w1 ⟨rfl, o1⟩
  obtain ⟨B, eB⟩ : ∃ B, spelledB s.data.toList [(65, 90), (97, 122), (48, 57)] = B := ⟨_, rfl⟩
  rw [eB]
  have hR := hid (hN.out.trans eB)
  clear eB hN
  go_wp2
  go_ret
  exact ⟨ret_bool hR.out.symm, o1⟩
set_option maxRecDepth 20000 in
set_option maxHeartbeats 4000000 in
theorem rvar_any (s : ByteArray) (w : World) (hs : s.size ≤ maxLen) :
    Calls Tryz.prog 153 #[.string s] w fun e w' => e = .returned (.bool (varB s.data.toList)) ∧ w = w' := by
  unfold maxLen at hs
  have hN := hid (show varB s.data.toList = spelledB s.data.toList varSp from rfl)
  by_cases h1 : (s.size : Int) < 1
  · have hr := hid (hN.out.trans (spelledB_short (by rw [blen]; omega)))
    go_enter Tryz.func153, Tryz.ntmps153
    go_wp2
    go_ret
    exact ⟨ret_bool hr.out.symm, rfl⟩
  by_cases h4 : (16 : Int) < s.size
  · have hr := hid (hN.out.trans (spelledB_short (by rw [blen]; omega)))
    go_enter Tryz.func153, Tryz.ntmps153
    go_wp2
    go_ret
    exact ⟨ret_bool hr.out.symm, rfl⟩
  have hs0 : 0 < s.size := by omega
  have hb0 := hid (byte_bt s 0 hs0)
  have hsz := hid (blen s)
  have hlow := hid (inB_up (bt s.data.toList 0))
  go_enter Tryz.func153, Tryz.ntmps153
  go_wp2_with fail
  refine (upper_any _ _).mono ?_
  rintro e w1 ⟨rfl, rfl⟩
  rw [hb0.out]
  obtain ⟨B, eB⟩ : ∃ B, upI (bt s.data.toList 0) = B := ⟨_, rfl⟩
  rw [eB]
  have hB := hid eB
  clear eB
  cases B
  · have hr := hid (hN.out.trans (spelledB_first (by rw [hlow.out]; exact hB.out)))
    go_wp2
    go_ret
    exact ⟨ret_bool hr.out.symm, rfl⟩
  · go_wp2
    go_loop [20] (fun i => ∃ k : Nat, k ≤ s.size ∧ i = .int .i64 k ∧ Hid (∀ j, j < k → inB (bt s.data.toList j) varSp = true)) (fun i => s.size - (intOf i).toNat)
    case atStart => exact ⟨0, Nat.zero_le _, rfl, hid (fun j hj => by omega)⟩
    case round =>
      obtain ⟨k, hk, rfl, hA⟩ := hrel
      by_cases hlt : k < s.size
      · have hk0 : (0 : Int) ≤ k := by omega
        have hkn : (k : Int) < s.size := by omega
        have hbk := hid (byte_bt s k hlt)
        have hin := hid (inB_var (bt s.data.toList k))
        go_wp2_with fail
        refine (lower_any _ _).mono ?_
        rintro e w2 ⟨rfl, rfl⟩
        rw [hbk.out]
        obtain ⟨B1, eB1⟩ : ∃ B, lowI (bt s.data.toList k) = B := ⟨_, rfl⟩
        rw [eB1]
        have hB1 := hid eB1
        clear eB1
        have hgo : inB (bt s.data.toList k) varSp = true → Hid (∀ j, j < k + 1 → inB (bt s.data.toList j) varSp = true) := fun h => hid fun j hj => by
          by_cases e : j < k
          · exact hA.out j e
          · rw [show j = k by omega]; exact h
        have Hgo := hid hgo
        clear hgo
        cases B1
        · go_wp2_with fail
          refine (upper_any _ _).mono ?_
          rintro e w3 ⟨rfl, rfl⟩
          rw [hbk.out]
          obtain ⟨B2, eB2⟩ : ∃ B, upI (bt s.data.toList k) = B := ⟨_, rfl⟩
          rw [eB2]
          have hB2 := hid eB2
          clear eB2
          cases B2
          · go_wp2_with fail
            refine (digit_any _ _).mono ?_
            rintro e w4 ⟨rfl, rfl⟩
            rw [hbk.out]
            obtain ⟨B3, eB3⟩ : ∃ B, digI (bt s.data.toList k) = B := ⟨_, rfl⟩
            rw [eB3]
            have hB3 := hid eB3
            clear eB3
            cases B3
            · have hr := hid (hN.out.trans (spelledB_bad k (by rw [hsz.out]; exact hlt) (by rw [hin.out, hB1.out, hB2.out, hB3.out]; rfl)))
              go_wp2
              go_ret
              exact ⟨ret_bool hr.out.symm, rfl⟩
            · have hA2 := Hgo.out (by rw [hin.out, hB3.out]; simp)
              go_wp2
              go_round
              case rel => exact ⟨k + 1, by omega, by go_num, hA2⟩
              case measure => simp [intOf]; omega
          · have hA2 := Hgo.out (by rw [hin.out, hB2.out]; simp)
            go_wp2
            go_round
            case rel => exact ⟨k + 1, by omega, by go_num, hA2⟩
            case measure => simp [intOf]; omega
        · have hA2 := Hgo.out (by rw [hin.out, hB1.out]; simp)
          go_wp2
          go_round
          case rel => exact ⟨k + 1, by omega, by go_num, hA2⟩
          case measure => simp [intOf]; omega
      · have hke : k = s.size := by omega
        have hr := hid (hN.out.trans (spelledB_ok (by rw [hsz.out]; omega) (by rw [hsz.out]; omega) (by rw [hlow.out]; exact hB.out) (fun j hj => hA.out j (by rw [hsz.out] at hj; omega))))
        clear hke
        go_wp2
        go_ret
        exact ⟨ret_bool hr.out.symm, rfl⟩
theorem rword_any (s : ByteArray) (w : World) : Calls Tryz.prog 193 #[.string s] w fun e w' => e = .returned (.bool (wordB s.data.toList)) ∧ w = w' := by
  have e0 := ByteArray.toList_eq s
  have hW := hid (show wordB s.data.toList = (s.data.toList == [105, 102] || s.data.toList == [97, 110, 100] || s.data.toList == [110, 111, 116]) from rfl)
  obtain ⟨x1, hx1⟩ : ∃ x, (s.data.toList == [105, 102]) = x := ⟨_, rfl⟩
  obtain ⟨x2, hx2⟩ : ∃ x, (s.data.toList == [97, 110, 100]) = x := ⟨_, rfl⟩
  obtain ⟨x3, hx3⟩ : ∃ x, (s.data.toList == [110, 111, 116]) = x := ⟨_, rfl⟩
  have f1 : (s.toList == [105, 102]) = x1 := by rw [e0]; exact hx1
  have f2 : (s.toList == [97, 110, 100]) = x2 := by rw [e0]; exact hx2
  have f3 : (s.toList == [110, 111, 116]) = x3 := by rw [e0]; exact hx3
  have hW2 := hid (hW.out.trans (by rw [hx1, hx2, hx3]))
  clear e0 hx1 hx2 hx3 hW
  go_enter Tryz.func193, Tryz.ntmps193
  cases x1 <;> cases x2 <;> cases x3
  all_goals
    go_wp2
    go_ret
    exact ⟨ret_bool hW2.out.symm, rfl⟩
/-- The three reserved words lie in their variable. -/
def Words (w : World) : Prop := ∀ j, j < 3 → w.cell? ⟨8, 0 + j, none⟩ = some (.string (([⟨#[105, 102]⟩, ⟨#[97, 110, 100]⟩, ⟨#[110, 111, 116]⟩] : List ByteArray).getD j ByteArray.empty))
theorem Words.below {w w' : World} {B : Nat} (h : Words w) (hb : Below B w w') (hB : w.heap.size ≤ B) : Words w' := fun j hj =>
  (hb.cell (p := ⟨8, 0 + j, none⟩) (Nat.lt_of_lt_of_le (lt_of_cell (h j hj)) hB)).trans (h j hj)
theorem contains_words (s : ByteArray) : Lib.containsS (([⟨#[105, 102]⟩, ⟨#[97, 110, 100]⟩, ⟨#[110, 111, 116]⟩] : List ByteArray).take 3) s = wordB s.data.toList := by
  have h := Lib.containsS_iff (([⟨#[105, 102]⟩, ⟨#[97, 110, 100]⟩, ⟨#[110, 111, 116]⟩] : List ByteArray).take 3) s
  have hx : ∀ x : List UInt8, s = ⟨x.toArray⟩ ↔ s.data.toList = x := fun x => ⟨fun e => by rw [e], fun e => by apply ByteArray.ext; apply Array.toList_inj.1; rw [e]⟩
  rw [Bool.eq_iff_iff, h]
  unfold wordB
  simp only [List.take_succ_cons, List.take_zero, List.mem_cons, List.mem_nil_iff, or_false, Bool.or_eq_true, beq_iff_eq]
  rw [show (⟨#[105, 102]⟩ : ByteArray) = ⟨([105, 102] : List UInt8).toArray⟩ from rfl, show (⟨#[97, 110, 100]⟩ : ByteArray) = ⟨([97, 110, 100] : List UInt8).toArray⟩ from rfl, show (⟨#[110, 111, 116]⟩ : ByteArray) = ⟨([110, 111, 116] : List UInt8).toArray⟩ from rfl, hx, hx, hx]
  exact or_assoc.symm
theorem lword_any (s : ByteArray) (w : World) (hw : Words w) : Calls Tryz.prog 190 #[.string s] w fun e w' => e = .returned (.bool (wordB s.data.toList)) ∧ Below w.heap.size w w' := by
  have hC := hid (contains_words s)
  have Hw := hid hw
  clear hw
  go_enter Tryz.func190, Tryz.ntmps190
  go_wp2_with fail
  refine (Tryz.slices_Contains_string 8 0 3 3 [⟨#[105, 102]⟩, ⟨#[97, 110, 100]⟩, ⟨#[110, 111, 116]⟩] s _ (Nat.le_refl _) (by omega) ?_).mono ?_
  · exact fun j hj => Hw.out j hj
  rintro e w1 ⟨rfl, rfl⟩
  rw [hC.out]
  go_wp2
  go_ret
  exact ⟨rfl, Below.refl _ _⟩
set_option maxRecDepth 20000 in
set_option maxHeartbeats 4000000 in
theorem lkind_any (s : ByteArray) (w : World) (hs : s.size ≤ maxLen) (hw : Words w) : Calls Tryz.prog 176 #[.string s] w fun e w' => e = .returned (.int .i64 (kindL s.data.toList)) ∧ Below w.heap.size w w' := by
  have hK := hid (show kindL s.data.toList = if wordB s.data.toList then 5 else if nameB s.data.toList then 1 else if numB s.data.toList then 2 else if varB s.data.toList then 3 else 0 from rfl)
  go_enter Tryz.func176, Tryz.ntmps176
  go_wp2_with fail
  refine (Number_any s _ hs).mono ?_
  rintro e w1 ⟨rfl, rfl⟩
  obtain ⟨nv, env⟩ : ∃ v, v = numV s.data.toList := ⟨_, rfl⟩
  rw [← env]
  clear env
  obtain ⟨B3, e3⟩ : ∃ B, numB s.data.toList = B := ⟨_, rfl⟩
  rw [e3] at hK
  rw [e3]
  clear e3
  go_wp2_with fail
  refine (lword_any s _ hw).mono ?_
  rintro e w2 ⟨rfl, o2⟩
  obtain ⟨B1, e1⟩ : ∃ B, wordB s.data.toList = B := ⟨_, rfl⟩
  rw [e1] at hK
  rw [e1]
  clear e1
  cases B1
  · go_wp2_with fail
    refine (tname_any s _ hs).mono ?_
    rintro e w3 ⟨rfl, o3⟩
    obtain ⟨B2, e2⟩ : ∃ B, nameB s.data.toList = B := ⟨_, rfl⟩
    rw [e2] at hK
    rw [e2]
    clear e2
    have b3 := o2.trans (o3.mono o2.size)
    cases B2
    · cases B3
      · go_wp2_with fail
        refine (tvar_any s _ hs).mono ?_
        rintro e w4 ⟨rfl, o4⟩
        obtain ⟨B4, e4⟩ : ∃ B, varB s.data.toList = B := ⟨_, rfl⟩
        rw [e4] at hK
        rw [e4]
        clear e4
        have b4 := b3.trans (o4.mono b3.size)
        cases B4
        · go_wp2
          go_ret
          exact ⟨ret_int hK.out.symm, b4⟩
        · go_wp2
          go_ret
          exact ⟨ret_int hK.out.symm, b4⟩
      · go_wp2
        go_ret
        exact ⟨ret_int hK.out.symm, b3⟩
    · go_wp2
      go_ret
      exact ⟨ret_int hK.out.symm, b3⟩
  · go_wp2
    go_ret
    exact ⟨ret_int hK.out.symm, o2⟩
set_option maxRecDepth 20000 in
set_option maxHeartbeats 4000000 in
theorem rkind_any (s : ByteArray) (w : World) (hs : s.size ≤ maxLen) : Calls Tryz.prog 182 #[.string s] w fun e w' => e = .returned (.int .i64 (kindL s.data.toList)) ∧ w = w' := by
  have hK := hid (show kindL s.data.toList = if wordB s.data.toList then 5 else if nameB s.data.toList then 1 else if numB s.data.toList then 2 else if varB s.data.toList then 3 else 0 from rfl)
  go_enter Tryz.func182, Tryz.ntmps182
  go_wp2_with fail
  refine (rNumber_any s _ hs).mono ?_
  rintro e w1 ⟨rfl, rfl⟩
  obtain ⟨nv, env⟩ : ∃ v, v = numV s.data.toList := ⟨_, rfl⟩
  rw [← env]
  clear env
  obtain ⟨B3, e3⟩ : ∃ B, numB s.data.toList = B := ⟨_, rfl⟩
  rw [e3] at hK
  rw [e3]
  clear e3
  go_wp2_with fail
  refine (rword_any s _).mono ?_
  rintro e w2 ⟨rfl, rfl⟩
  obtain ⟨B1, e1⟩ : ∃ B, wordB s.data.toList = B := ⟨_, rfl⟩
  rw [e1] at hK
  rw [e1]
  clear e1
  cases B1
  · go_wp2_with fail
    refine (rname_any s _ hs).mono ?_
    rintro e w3 ⟨rfl, rfl⟩
    obtain ⟨B2, e2⟩ : ∃ B, nameB s.data.toList = B := ⟨_, rfl⟩
    rw [e2] at hK
    rw [e2]
    clear e2
    cases B2
    · cases B3
      · go_wp2_with fail
        refine (rvar_any s _ hs).mono ?_
        rintro e w4 ⟨rfl, rfl⟩
        obtain ⟨B4, e4⟩ : ∃ B, varB s.data.toList = B := ⟨_, rfl⟩
        rw [e4] at hK
        rw [e4]
        clear e4
        cases B4
        · go_wp2
          go_ret
          exact ⟨ret_int hK.out.symm, rfl⟩
        · go_wp2
          go_ret
          exact ⟨ret_int hK.out.symm, rfl⟩
      · go_wp2
        go_ret
        exact ⟨ret_int hK.out.symm, rfl⟩
    · go_wp2
      go_ret
      exact ⟨ret_int hK.out.symm, rfl⟩
  · go_wp2
    go_ret
    exact ⟨ret_int hK.out.symm, rfl⟩
end Go.Proofs.YtahbhhenobehfaaGreatDoor
