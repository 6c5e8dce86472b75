/-
  The walks of predicates over one byte: blanks, runs, symbols, capital letters.
-/
import Derived.Test.YtahbhhenobehfaaGreatDoorNT4
namespace Go.Proofs.YtahbhhenobehfaaGreatDoor
open Go.ChangeShapes Go.WideShapes Go.ChangeAt Go.RowKit

def blankI (x : Int) : Bool := x == 32 || x == 9 || x == 10 || x == 13
def runI (x : Int) : Bool := (decide (97 ≤ x) && decide (x ≤ 122)) || (decide (65 ≤ x) && decide (x ≤ 90)) || (decide (48 ≤ x) && decide (x ≤ 57)) || x == 45
def symI (x : Int) : Bool := x == 40 || x == 41 || x == 44 || x == 46
def upI (x : Int) : Bool := (decide (65 ≤ x) && decide (x ≤ 90))
theorem lblank_any_cases (x : Int) : x ≤ 8 ∨ x = 9 ∨ x = 10 ∨ (11 ≤ x ∧ x ≤ 12) ∨ x = 13 ∨ (14 ≤ x ∧ x ≤ 31) ∨ x = 32 ∨ 33 ≤ x := by omega
theorem lblank_any (x : Int) (w : World) : Calls Tryz.prog 172 #[.int .u8 x] w fun e w' => e = .returned (.bool (blankI x)) ∧ w = w' := by
  rcases lblank_any_cases x with h1 | rfl | rfl | ⟨h1, h2⟩ | rfl | ⟨h1, h2⟩ | rfl | h1
  · have hr := hid (show blankI x = false by unfold blankI; simp only [Bool.or_eq_false_iff, beq_eq_false_iff_ne, ne_eq]; omega)
    have : (x == 32) = false := by rw [beq_eq_false_iff_ne]; omega
    have : (x == 9) = false := by rw [beq_eq_false_iff_ne]; omega
    have : (x == 10) = false := by rw [beq_eq_false_iff_ne]; omega
    have : (x == 13) = false := by rw [beq_eq_false_iff_ne]; omega
    clear h1
    go_enter Tryz.func172, Tryz.ntmps172
    go_wp2
    go_ret
    exact ⟨ret_bool hr.out.symm, rfl⟩
  · go_enter Tryz.func172, Tryz.ntmps172
    go_wp2
    go_ret
    exact ⟨rfl, rfl⟩
  · go_enter Tryz.func172, Tryz.ntmps172
    go_wp2
    go_ret
    exact ⟨rfl, rfl⟩
  · have hr := hid (show blankI x = false by unfold blankI; simp only [Bool.or_eq_false_iff, beq_eq_false_iff_ne, ne_eq]; omega)
    have : (x == 32) = false := by rw [beq_eq_false_iff_ne]; omega
    have : (x == 9) = false := by rw [beq_eq_false_iff_ne]; omega
    have : (x == 10) = false := by rw [beq_eq_false_iff_ne]; omega
    have : (x == 13) = false := by rw [beq_eq_false_iff_ne]; omega
    clear h1 h2
    go_enter Tryz.func172, Tryz.ntmps172
    go_wp2
    go_ret
    exact ⟨ret_bool hr.out.symm, rfl⟩
  · go_enter Tryz.func172, Tryz.ntmps172
    go_wp2
    go_ret
    exact ⟨rfl, rfl⟩
  · have hr := hid (show blankI x = false by unfold blankI; simp only [Bool.or_eq_false_iff, beq_eq_false_iff_ne, ne_eq]; omega)
    have : (x == 32) = false := by rw [beq_eq_false_iff_ne]; omega
    have : (x == 9) = false := by rw [beq_eq_false_iff_ne]; omega
    have : (x == 10) = false := by rw [beq_eq_false_iff_ne]; omega
    have : (x == 13) = false := by rw [beq_eq_false_iff_ne]; omega
    clear h1 h2
    go_enter Tryz.func172, Tryz.ntmps172
    go_wp2
    go_ret
    exact ⟨ret_bool hr.out.symm, rfl⟩
  · go_enter Tryz.func172, Tryz.ntmps172
    go_wp2
    go_ret
    exact ⟨rfl, rfl⟩
  · have hr := hid (show blankI x = false by unfold blankI; simp only [Bool.or_eq_false_iff, beq_eq_false_iff_ne, ne_eq]; omega)
    have : (x == 32) = false := by rw [beq_eq_false_iff_ne]; omega
    have : (x == 9) = false := by rw [beq_eq_false_iff_ne]; omega
    have : (x == 10) = false := by rw [beq_eq_false_iff_ne]; omega
    have : (x == 13) = false := by rw [beq_eq_false_iff_ne]; omega
    clear h1
    go_enter Tryz.func172, Tryz.ntmps172
    go_wp2
    go_ret
    exact ⟨ret_bool hr.out.symm, rfl⟩
theorem lrun_any_cases (x : Int) : x ≤ 44 ∨ x = 45 ∨ (46 ≤ x ∧ x ≤ 47) ∨ (48 ≤ x ∧ x ≤ 57) ∨ (58 ≤ x ∧ x ≤ 64) ∨ (65 ≤ x ∧ x ≤ 90) ∨ (91 ≤ x ∧ x ≤ 96) ∨ (97 ≤ x ∧ x ≤ 122) ∨ 123 ≤ x := by omega
theorem lrun_any (x : Int) (w : World) : Calls Tryz.prog 175 #[.int .u8 x] w fun e w' => e = .returned (.bool (runI x)) ∧ w = w' := by
  rcases lrun_any_cases x with h1 | rfl | ⟨h1, h2⟩ | ⟨h1, h2⟩ | ⟨h1, h2⟩ | ⟨h1, h2⟩ | ⟨h1, h2⟩ | ⟨h1, h2⟩ | h1
  · have hr := hid (show runI x = false by unfold runI; simp only [Bool.or_eq_false_iff, Bool.and_eq_false_iff, decide_eq_false_iff_not, beq_eq_false_iff_ne, ne_eq]; omega)
    have : ¬ 97 ≤ x := by omega
    have : x ≤ 122 := by omega
    have : ¬ 65 ≤ x := by omega
    have : x ≤ 90 := by omega
    have : ¬ 48 ≤ x := by omega
    have : x ≤ 57 := by omega
    have : (x == 45) = false := by rw [beq_eq_false_iff_ne]; omega
    clear h1
    go_enter Tryz.func175, Tryz.ntmps175
    go_wp2
    go_ret
    exact ⟨ret_bool hr.out.symm, rfl⟩
  · go_enter Tryz.func175, Tryz.ntmps175
    go_wp2
    go_ret
    exact ⟨rfl, rfl⟩
  · have hr := hid (show runI x = false by unfold runI; simp only [Bool.or_eq_false_iff, Bool.and_eq_false_iff, decide_eq_false_iff_not, beq_eq_false_iff_ne, ne_eq]; omega)
    have : ¬ 97 ≤ x := by omega
    have : x ≤ 122 := by omega
    have : ¬ 65 ≤ x := by omega
    have : x ≤ 90 := by omega
    have : ¬ 48 ≤ x := by omega
    have : x ≤ 57 := by omega
    have : (x == 45) = false := by rw [beq_eq_false_iff_ne]; omega
    clear h1 h2
    go_enter Tryz.func175, Tryz.ntmps175
    go_wp2
    go_ret
    exact ⟨ret_bool hr.out.symm, rfl⟩
  · have hr := hid (show runI x = true by unfold runI; simp only [Bool.or_eq_true, Bool.and_eq_true, decide_eq_true_eq, beq_iff_eq]; omega)
    have : ¬ 97 ≤ x := by omega
    have : x ≤ 122 := by omega
    have : ¬ 65 ≤ x := by omega
    have : x ≤ 90 := by omega
    have : 48 ≤ x := by omega
    have : x ≤ 57 := by omega
    have : (x == 45) = false := by rw [beq_eq_false_iff_ne]; omega
    clear h1 h2
    go_enter Tryz.func175, Tryz.ntmps175
    go_wp2
    go_ret
    exact ⟨ret_bool hr.out.symm, rfl⟩
  · have hr := hid (show runI x = false by unfold runI; simp only [Bool.or_eq_false_iff, Bool.and_eq_false_iff, decide_eq_false_iff_not, beq_eq_false_iff_ne, ne_eq]; omega)
    have : ¬ 97 ≤ x := by omega
    have : x ≤ 122 := by omega
    have : ¬ 65 ≤ x := by omega
    have : x ≤ 90 := by omega
    have : 48 ≤ x := by omega
    have : ¬ x ≤ 57 := by omega
    have : (x == 45) = false := by rw [beq_eq_false_iff_ne]; omega
    clear h1 h2
    go_enter Tryz.func175, Tryz.ntmps175
    go_wp2
    go_ret
    exact ⟨ret_bool hr.out.symm, rfl⟩
  · have hr := hid (show runI x = true by unfold runI; simp only [Bool.or_eq_true, Bool.and_eq_true, decide_eq_true_eq, beq_iff_eq]; omega)
    have : ¬ 97 ≤ x := by omega
    have : x ≤ 122 := by omega
    have : 65 ≤ x := by omega
    have : x ≤ 90 := by omega
    have : 48 ≤ x := by omega
    have : ¬ x ≤ 57 := by omega
    have : (x == 45) = false := by rw [beq_eq_false_iff_ne]; omega
    clear h1 h2
    go_enter Tryz.func175, Tryz.ntmps175
    go_wp2
    go_ret
    exact ⟨ret_bool hr.out.symm, rfl⟩
  · have hr := hid (show runI x = false by unfold runI; simp only [Bool.or_eq_false_iff, Bool.and_eq_false_iff, decide_eq_false_iff_not, beq_eq_false_iff_ne, ne_eq]; omega)
    have : ¬ 97 ≤ x := by omega
    have : x ≤ 122 := by omega
    have : 65 ≤ x := by omega
    have : ¬ x ≤ 90 := by omega
    have : 48 ≤ x := by omega
    have : ¬ x ≤ 57 := by omega
    have : (x == 45) = false := by rw [beq_eq_false_iff_ne]; omega
    clear h1 h2
    go_enter Tryz.func175, Tryz.ntmps175
    go_wp2
    go_ret
    exact ⟨ret_bool hr.out.symm, rfl⟩
  · have hr := hid (show runI x = true by unfold runI; simp only [Bool.or_eq_true, Bool.and_eq_true, decide_eq_true_eq, beq_iff_eq]; omega)
    have : 97 ≤ x := by omega
    have : x ≤ 122 := by omega
    have : 65 ≤ x := by omega
    have : ¬ x ≤ 90 := by omega
    have : 48 ≤ x := by omega
    have : ¬ x ≤ 57 := by omega
    have : (x == 45) = false := by rw [beq_eq_false_iff_ne]; omega
    clear h1 h2
    go_enter Tryz.func175, Tryz.ntmps175
    go_wp2
    go_ret
    exact ⟨ret_bool hr.out.symm, rfl⟩
  · have hr := hid (show runI x = false by unfold runI; simp only [Bool.or_eq_false_iff, Bool.and_eq_false_iff, decide_eq_false_iff_not, beq_eq_false_iff_ne, ne_eq]; omega)
    have : 97 ≤ x := by omega
    have : ¬ x ≤ 122 := by omega
    have : 65 ≤ x := by omega
    have : ¬ x ≤ 90 := by omega
    have : 48 ≤ x := by omega
    have : ¬ x ≤ 57 := by omega
    have : (x == 45) = false := by rw [beq_eq_false_iff_ne]; omega
    clear h1
    go_enter Tryz.func175, Tryz.ntmps175
    go_wp2
    go_ret
    exact ⟨ret_bool hr.out.symm, rfl⟩
theorem rblank_any_cases (x : Int) : x ≤ 8 ∨ x = 9 ∨ x = 10 ∨ (11 ≤ x ∧ x ≤ 12) ∨ x = 13 ∨ (14 ≤ x ∧ x ≤ 31) ∨ x = 32 ∨ 33 ≤ x := by omega
theorem rblank_any (x : Int) (w : World) : Calls Tryz.prog 179 #[.int .u8 x] w fun e w' => e = .returned (.bool (blankI x)) ∧ w = w' := by
  rcases rblank_any_cases x with h1 | rfl | rfl | ⟨h1, h2⟩ | rfl | ⟨h1, h2⟩ | rfl | h1
  · have hr := hid (show blankI x = false by unfold blankI; simp only [Bool.or_eq_false_iff, beq_eq_false_iff_ne, ne_eq]; omega)
    have : (x == 32) = false := by rw [beq_eq_false_iff_ne]; omega
    have : (x == 9) = false := by rw [beq_eq_false_iff_ne]; omega
    have : (x == 10) = false := by rw [beq_eq_false_iff_ne]; omega
    have : (x == 13) = false := by rw [beq_eq_false_iff_ne]; omega
    clear h1
    go_enter Tryz.func179, Tryz.ntmps179
    go_wp2
    go_ret
    exact ⟨ret_bool hr.out.symm, rfl⟩
  · go_enter Tryz.func179, Tryz.ntmps179
    go_wp2
    go_ret
    exact ⟨rfl, rfl⟩
  · go_enter Tryz.func179, Tryz.ntmps179
    go_wp2
    go_ret
    exact ⟨rfl, rfl⟩
  · have hr := hid (show blankI x = false by unfold blankI; simp only [Bool.or_eq_false_iff, beq_eq_false_iff_ne, ne_eq]; omega)
    have : (x == 32) = false := by rw [beq_eq_false_iff_ne]; omega
    have : (x == 9) = false := by rw [beq_eq_false_iff_ne]; omega
    have : (x == 10) = false := by rw [beq_eq_false_iff_ne]; omega
    have : (x == 13) = false := by rw [beq_eq_false_iff_ne]; omega
    clear h1 h2
    go_enter Tryz.func179, Tryz.ntmps179
    go_wp2
    go_ret
    exact ⟨ret_bool hr.out.symm, rfl⟩
  · go_enter Tryz.func179, Tryz.ntmps179
    go_wp2
    go_ret
    exact ⟨rfl, rfl⟩
  · have hr := hid (show blankI x = false by unfold blankI; simp only [Bool.or_eq_false_iff, beq_eq_false_iff_ne, ne_eq]; omega)
    have : (x == 32) = false := by rw [beq_eq_false_iff_ne]; omega
    have : (x == 9) = false := by rw [beq_eq_false_iff_ne]; omega
    have : (x == 10) = false := by rw [beq_eq_false_iff_ne]; omega
    have : (x == 13) = false := by rw [beq_eq_false_iff_ne]; omega
    clear h1 h2
    go_enter Tryz.func179, Tryz.ntmps179
    go_wp2
    go_ret
    exact ⟨ret_bool hr.out.symm, rfl⟩
  · go_enter Tryz.func179, Tryz.ntmps179
    go_wp2
    go_ret
    exact ⟨rfl, rfl⟩
  · have hr := hid (show blankI x = false by unfold blankI; simp only [Bool.or_eq_false_iff, beq_eq_false_iff_ne, ne_eq]; omega)
    have : (x == 32) = false := by rw [beq_eq_false_iff_ne]; omega
    have : (x == 9) = false := by rw [beq_eq_false_iff_ne]; omega
    have : (x == 10) = false := by rw [beq_eq_false_iff_ne]; omega
    have : (x == 13) = false := by rw [beq_eq_false_iff_ne]; omega
    clear h1
    go_enter Tryz.func179, Tryz.ntmps179
    go_wp2
    go_ret
    exact ⟨ret_bool hr.out.symm, rfl⟩
theorem rpart_any_cases (x : Int) : x ≤ 44 ∨ x = 45 ∨ (46 ≤ x ∧ x ≤ 47) ∨ (48 ≤ x ∧ x ≤ 57) ∨ (58 ≤ x ∧ x ≤ 64) ∨ (65 ≤ x ∧ x ≤ 90) ∨ (91 ≤ x ∧ x ≤ 96) ∨ (97 ≤ x ∧ x ≤ 122) ∨ 123 ≤ x := by omega
theorem rpart_any (x : Int) (w : World) : Calls Tryz.prog 181 #[.int .u8 x] w fun e w' => e = .returned (.bool (runI x)) ∧ w = w' := by
  rcases rpart_any_cases x with h1 | rfl | ⟨h1, h2⟩ | ⟨h1, h2⟩ | ⟨h1, h2⟩ | ⟨h1, h2⟩ | ⟨h1, h2⟩ | ⟨h1, h2⟩ | h1
  · have hr := hid (show runI x = false by unfold runI; simp only [Bool.or_eq_false_iff, Bool.and_eq_false_iff, decide_eq_false_iff_not, beq_eq_false_iff_ne, ne_eq]; omega)
    have : ¬ 97 ≤ x := by omega
    have : x ≤ 122 := by omega
    have : ¬ 65 ≤ x := by omega
    have : x ≤ 90 := by omega
    have : ¬ 48 ≤ x := by omega
    have : x ≤ 57 := by omega
    have : (x == 45) = false := by rw [beq_eq_false_iff_ne]; omega
    clear h1
    go_enter Tryz.func181, Tryz.ntmps181
    go_wp2
    go_ret
    exact ⟨ret_bool hr.out.symm, rfl⟩
  · go_enter Tryz.func181, Tryz.ntmps181
    go_wp2
    go_ret
    exact ⟨rfl, rfl⟩
  · have hr := hid (show runI x = false by unfold runI; simp only [Bool.or_eq_false_iff, Bool.and_eq_false_iff, decide_eq_false_iff_not, beq_eq_false_iff_ne, ne_eq]; omega)
    have : ¬ 97 ≤ x := by omega
    have : x ≤ 122 := by omega
    have : ¬ 65 ≤ x := by omega
    have : x ≤ 90 := by omega
    have : ¬ 48 ≤ x := by omega
    have : x ≤ 57 := by omega
    have : (x == 45) = false := by rw [beq_eq_false_iff_ne]; omega
    clear h1 h2
    go_enter Tryz.func181, Tryz.ntmps181
    go_wp2
    go_ret
    exact ⟨ret_bool hr.out.symm, rfl⟩
  · have hr := hid (show runI x = true by unfold runI; simp only [Bool.or_eq_true, Bool.and_eq_true, decide_eq_true_eq, beq_iff_eq]; omega)
    have : ¬ 97 ≤ x := by omega
    have : x ≤ 122 := by omega
    have : ¬ 65 ≤ x := by omega
    have : x ≤ 90 := by omega
    have : 48 ≤ x := by omega
    have : x ≤ 57 := by omega
    have : (x == 45) = false := by rw [beq_eq_false_iff_ne]; omega
    clear h1 h2
    go_enter Tryz.func181, Tryz.ntmps181
    go_wp2
    go_ret
    exact ⟨ret_bool hr.out.symm, rfl⟩
  · have hr := hid (show runI x = false by unfold runI; simp only [Bool.or_eq_false_iff, Bool.and_eq_false_iff, decide_eq_false_iff_not, beq_eq_false_iff_ne, ne_eq]; omega)
    have : ¬ 97 ≤ x := by omega
    have : x ≤ 122 := by omega
    have : ¬ 65 ≤ x := by omega
    have : x ≤ 90 := by omega
    have : 48 ≤ x := by omega
    have : ¬ x ≤ 57 := by omega
    have : (x == 45) = false := by rw [beq_eq_false_iff_ne]; omega
    clear h1 h2
    go_enter Tryz.func181, Tryz.ntmps181
    go_wp2
    go_ret
    exact ⟨ret_bool hr.out.symm, rfl⟩
  · have hr := hid (show runI x = true by unfold runI; simp only [Bool.or_eq_true, Bool.and_eq_true, decide_eq_true_eq, beq_iff_eq]; omega)
    have : ¬ 97 ≤ x := by omega
    have : x ≤ 122 := by omega
    have : 65 ≤ x := by omega
    have : x ≤ 90 := by omega
    have : 48 ≤ x := by omega
    have : ¬ x ≤ 57 := by omega
    have : (x == 45) = false := by rw [beq_eq_false_iff_ne]; omega
    clear h1 h2
    go_enter Tryz.func181, Tryz.ntmps181
    go_wp2
    go_ret
    exact ⟨ret_bool hr.out.symm, rfl⟩
  · have hr := hid (show runI x = false by unfold runI; simp only [Bool.or_eq_false_iff, Bool.and_eq_false_iff, decide_eq_false_iff_not, beq_eq_false_iff_ne, ne_eq]; omega)
    have : ¬ 97 ≤ x := by omega
    have : x ≤ 122 := by omega
    have : 65 ≤ x := by omega
    have : ¬ x ≤ 90 := by omega
    have : 48 ≤ x := by omega
    have : ¬ x ≤ 57 := by omega
    have : (x == 45) = false := by rw [beq_eq_false_iff_ne]; omega
    clear h1 h2
    go_enter Tryz.func181, Tryz.ntmps181
    go_wp2
    go_ret
    exact ⟨ret_bool hr.out.symm, rfl⟩
  · have hr := hid (show runI x = true by unfold runI; simp only [Bool.or_eq_true, Bool.and_eq_true, decide_eq_true_eq, beq_iff_eq]; omega)
    have : 97 ≤ x := by omega
    have : x ≤ 122 := by omega
    have : 65 ≤ x := by omega
    have : ¬ x ≤ 90 := by omega
    have : 48 ≤ x := by omega
    have : ¬ x ≤ 57 := by omega
    have : (x == 45) = false := by rw [beq_eq_false_iff_ne]; omega
    clear h1 h2
    go_enter Tryz.func181, Tryz.ntmps181
    go_wp2
    go_ret
    exact ⟨ret_bool hr.out.symm, rfl⟩
  · have hr := hid (show runI x = false by unfold runI; simp only [Bool.or_eq_false_iff, Bool.and_eq_false_iff, decide_eq_false_iff_not, beq_eq_false_iff_ne, ne_eq]; omega)
    have : 97 ≤ x := by omega
    have : ¬ x ≤ 122 := by omega
    have : 65 ≤ x := by omega
    have : ¬ x ≤ 90 := by omega
    have : 48 ≤ x := by omega
    have : ¬ x ≤ 57 := by omega
    have : (x == 45) = false := by rw [beq_eq_false_iff_ne]; omega
    clear h1
    go_enter Tryz.func181, Tryz.ntmps181
    go_wp2
    go_ret
    exact ⟨ret_bool hr.out.symm, rfl⟩
theorem rsymbol_any_cases (x : Int) : x ≤ 39 ∨ x = 40 ∨ x = 41 ∨ (42 ≤ x ∧ x ≤ 43) ∨ x = 44 ∨ x = 45 ∨ x = 46 ∨ 47 ≤ x := by omega
theorem rsymbol_any (x : Int) (w : World) : Calls Tryz.prog 180 #[.int .u8 x] w fun e w' => e = .returned (.bool (symI x)) ∧ w = w' := by
  rcases rsymbol_any_cases x with h1 | rfl | rfl | ⟨h1, h2⟩ | rfl | rfl | rfl | h1
  · have hr := hid (show symI x = false by unfold symI; simp only [Bool.or_eq_false_iff, beq_eq_false_iff_ne, ne_eq]; omega)
    have : (x == 40) = false := by rw [beq_eq_false_iff_ne]; omega
    have : (x == 41) = false := by rw [beq_eq_false_iff_ne]; omega
    have : (x == 44) = false := by rw [beq_eq_false_iff_ne]; omega
    have : (x == 46) = false := by rw [beq_eq_false_iff_ne]; omega
    clear h1
    go_enter Tryz.func180, Tryz.ntmps180
    go_wp2
    go_ret
    exact ⟨ret_bool hr.out.symm, rfl⟩
  · go_enter Tryz.func180, Tryz.ntmps180
    go_wp2
    go_ret
    exact ⟨rfl, rfl⟩
  · go_enter Tryz.func180, Tryz.ntmps180
    go_wp2
    go_ret
    exact ⟨rfl, rfl⟩
  · have hr := hid (show symI x = false by unfold symI; simp only [Bool.or_eq_false_iff, beq_eq_false_iff_ne, ne_eq]; omega)
    have : (x == 40) = false := by rw [beq_eq_false_iff_ne]; omega
    have : (x == 41) = false := by rw [beq_eq_false_iff_ne]; omega
    have : (x == 44) = false := by rw [beq_eq_false_iff_ne]; omega
    have : (x == 46) = false := by rw [beq_eq_false_iff_ne]; omega
    clear h1 h2
    go_enter Tryz.func180, Tryz.ntmps180
    go_wp2
    go_ret
    exact ⟨ret_bool hr.out.symm, rfl⟩
  · go_enter Tryz.func180, Tryz.ntmps180
    go_wp2
    go_ret
    exact ⟨rfl, rfl⟩
  · go_enter Tryz.func180, Tryz.ntmps180
    go_wp2
    go_ret
    exact ⟨rfl, rfl⟩
  · go_enter Tryz.func180, Tryz.ntmps180
    go_wp2
    go_ret
    exact ⟨rfl, rfl⟩
  · have hr := hid (show symI x = false by unfold symI; simp only [Bool.or_eq_false_iff, beq_eq_false_iff_ne, ne_eq]; omega)
    have : (x == 40) = false := by rw [beq_eq_false_iff_ne]; omega
    have : (x == 41) = false := by rw [beq_eq_false_iff_ne]; omega
    have : (x == 44) = false := by rw [beq_eq_false_iff_ne]; omega
    have : (x == 46) = false := by rw [beq_eq_false_iff_ne]; omega
    clear h1
    go_enter Tryz.func180, Tryz.ntmps180
    go_wp2
    go_ret
    exact ⟨ret_bool hr.out.symm, rfl⟩
theorem upper_any_cases (x : Int) : x ≤ 64 ∨ (65 ≤ x ∧ x ≤ 90) ∨ 91 ≤ x := by omega
theorem upper_any (x : Int) (w : World) : Calls Tryz.prog 185 #[.int .u8 x] w fun e w' => e = .returned (.bool (upI x)) ∧ w = w' := by
  rcases upper_any_cases x with h1 | ⟨h1, h2⟩ | h1
  · have hr := hid (show upI x = false by unfold upI; simp only [Bool.and_eq_false_iff, decide_eq_false_iff_not]; omega)
    have : ¬ 65 ≤ x := by omega
    have : x ≤ 90 := by omega
    clear h1
    go_enter Tryz.func185, Tryz.ntmps185
    go_wp2
    go_ret
    exact ⟨ret_bool hr.out.symm, rfl⟩
  · have hr := hid (show upI x = true by unfold upI; simp only [Bool.and_eq_true, decide_eq_true_eq]; omega)
    have : 65 ≤ x := by omega
    have : x ≤ 90 := by omega
    clear h1 h2
    go_enter Tryz.func185, Tryz.ntmps185
    go_wp2
    go_ret
    exact ⟨ret_bool hr.out.symm, rfl⟩
  · have hr := hid (show upI x = false by unfold upI; simp only [Bool.and_eq_false_iff, decide_eq_false_iff_not]; omega)
    have : 65 ≤ x := by omega
    have : ¬ x ≤ 90 := by omega
    clear h1
    go_enter Tryz.func185, Tryz.ntmps185
    go_wp2
    go_ret
    exact ⟨ret_bool hr.out.symm, rfl⟩
end Go.Proofs.YtahbhhenobehfaaGreatDoor
