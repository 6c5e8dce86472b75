/-
  The walks of plain and Escape of package message and of its reference.
-/
import Derived.Test.YtahbhhenobehfaaGreatDoorT8
import Derived.Test.YtahbhhenobehfaaGreatDoorT9
import Derived.Test.YtahbhhenobehfaaGreatDoorTEsc
namespace Go.Proofs.YtahbhhenobehfaaGreatDoor
open Go.ChangeShapes Go.WideShapes Go.ChangeAt Go.RowKit

theorem plain_far {x : Int} (h : 57 < x) : (x == 40) = false ∧ (x == 41) = false ∧ (x == 44) = false ∧ (x == 46) = false ∧ (x == 45) = false := by
  simp only [beq_eq_false_iff_ne, ne_eq]; omega
theorem mplain_any (x : Int) (w : World) : Calls Tryz.prog 100 #[.int .u8 x] w fun e w' => e = .returned (.bool (plainI x)) ∧ w = w' := by
  rcases plain_cases x with (rfl | rfl | rfl | rfl | rfl) | ⟨h1, g1, g2, g3, g4, g5⟩ | ⟨h1, h2⟩ | ⟨h1, h2⟩ | ⟨h1, h2⟩ | ⟨h1, h2⟩ | ⟨h1, h2⟩ | h1
  case inl.inl | inl.inr.inl | inl.inr.inr.inl | inl.inr.inr.inr.inl | inl.inr.inr.inr.inr =>
    go_enter Tryz.func100, Tryz.ntmps100
    go_wp2
    go_ret
    exact ⟨rfl, rfl⟩
  case inr.inl =>
    have hr := hid (show plainI x = false by unfold plainI; rw [decide_eq_false (p := 97 ≤ x) (by omega), decide_eq_false (p := 65 ≤ x) (by omega), decide_eq_false (p := 48 ≤ x) (by omega), g1, g2, g3, g4, g5]; rfl)
    go_enter Tryz.func100, Tryz.ntmps100
    go_wp2
    go_ret
    exact ⟨ret_bool hr.out.symm, rfl⟩
  case inr.inr.inl =>
    have hr := hid (show plainI x = true by unfold plainI; rw [decide_eq_true h1, decide_eq_true h2]; simp)
    have h3 : ¬ 97 ≤ x := by omega
    have h4 : ¬ 65 ≤ x := by omega
    go_enter Tryz.func100, Tryz.ntmps100
    go_wp2
    go_ret
    exact ⟨ret_bool hr.out.symm, rfl⟩
  case inr.inr.inr.inl =>
    obtain ⟨g1, g2, g3, g4, g5⟩ := plain_far h1
    have hr := hid (show plainI x = false by unfold plainI; rw [decide_eq_false (p := 97 ≤ x) (by omega), decide_eq_false (p := 65 ≤ x) (by omega), decide_eq_false (p := x ≤ 57) (by omega), g1, g2, g3, g4, g5]; simp)
    have h3 : ¬ 97 ≤ x := by omega
    have h4 : ¬ 65 ≤ x := by omega
    have h5 : 48 ≤ x := by omega
    have h6 : ¬ x ≤ 57 := by omega
    go_enter Tryz.func100, Tryz.ntmps100
    go_wp2
    go_ret
    exact ⟨ret_bool hr.out.symm, rfl⟩
  case inr.inr.inr.inr.inl =>
    have hr := hid (show plainI x = true by unfold plainI; rw [decide_eq_true h1, decide_eq_true h2]; simp)
    have h3 : ¬ 97 ≤ x := by omega
    go_enter Tryz.func100, Tryz.ntmps100
    go_wp2
    go_ret
    exact ⟨ret_bool hr.out.symm, rfl⟩
  case inr.inr.inr.inr.inr.inl =>
    obtain ⟨g1, g2, g3, g4, g5⟩ := plain_far (x := x) (by omega)
    have hr := hid (show plainI x = false by unfold plainI; rw [decide_eq_false (p := 97 ≤ x) (by omega), decide_eq_false (p := x ≤ 90) (by omega), decide_eq_false (p := x ≤ 57) (by omega), g1, g2, g3, g4, g5]; simp)
    have h3 : ¬ 97 ≤ x := by omega
    have h4 : 65 ≤ x := by omega
    have h7 : ¬ x ≤ 90 := by omega
    have h5 : 48 ≤ x := by omega
    have h6 : ¬ x ≤ 57 := by omega
    go_enter Tryz.func100, Tryz.ntmps100
    go_wp2
    go_ret
    exact ⟨ret_bool hr.out.symm, rfl⟩
  case inr.inr.inr.inr.inr.inr.inl =>
    have hr := hid (show plainI x = true by unfold plainI; rw [decide_eq_true h1, decide_eq_true h2]; simp)
    go_enter Tryz.func100, Tryz.ntmps100
    go_wp2
    go_ret
    exact ⟨ret_bool hr.out.symm, rfl⟩
  case inr.inr.inr.inr.inr.inr.inr =>
    obtain ⟨g1, g2, g3, g4, g5⟩ := plain_far (x := x) (by omega)
    have hr := hid (show plainI x = false by unfold plainI; rw [decide_eq_false (p := x ≤ 122) (by omega), decide_eq_false (p := x ≤ 90) (by omega), decide_eq_false (p := x ≤ 57) (by omega), g1, g2, g3, g4, g5]; simp)
    have h3 : 97 ≤ x := by omega
    have h8 : ¬ x ≤ 122 := by omega
    have h4 : 65 ≤ x := by omega
    have h7 : ¬ x ≤ 90 := by omega
    have h5 : 48 ≤ x := by omega
    have h6 : ¬ x ≤ 57 := by omega
    go_enter Tryz.func100, Tryz.ntmps100
    go_wp2
    go_ret
    exact ⟨ret_bool hr.out.symm, rfl⟩
theorem rplain_any (x : Int) (w : World) : Calls Tryz.prog 61 #[.int .u8 x] w fun e w' => e = .returned (.bool (plainI x)) ∧ w = w' := by
  rcases plain_cases x with (rfl | rfl | rfl | rfl | rfl) | ⟨h1, g1, g2, g3, g4, g5⟩ | ⟨h1, h2⟩ | ⟨h1, h2⟩ | ⟨h1, h2⟩ | ⟨h1, h2⟩ | ⟨h1, h2⟩ | h1
  case inl.inl | inl.inr.inl | inl.inr.inr.inl | inl.inr.inr.inr.inl | inl.inr.inr.inr.inr =>
    go_enter Tryz.func61, Tryz.ntmps61
    go_wp2
    go_ret
    exact ⟨rfl, rfl⟩
  case inr.inl =>
    have hr := hid (show plainI x = false by unfold plainI; rw [decide_eq_false (p := 97 ≤ x) (by omega), decide_eq_false (p := 65 ≤ x) (by omega), decide_eq_false (p := 48 ≤ x) (by omega), g1, g2, g3, g4, g5]; rfl)
    go_enter Tryz.func61, Tryz.ntmps61
    go_wp2
    go_ret
    exact ⟨ret_bool hr.out.symm, rfl⟩
  case inr.inr.inl =>
    have hr := hid (show plainI x = true by unfold plainI; rw [decide_eq_true h1, decide_eq_true h2]; simp)
    have h3 : ¬ 97 ≤ x := by omega
    have h4 : ¬ 65 ≤ x := by omega
    go_enter Tryz.func61, Tryz.ntmps61
    go_wp2
    go_ret
    exact ⟨ret_bool hr.out.symm, rfl⟩
  case inr.inr.inr.inl =>
    obtain ⟨g1, g2, g3, g4, g5⟩ := plain_far h1
    have hr := hid (show plainI x = false by unfold plainI; rw [decide_eq_false (p := 97 ≤ x) (by omega), decide_eq_false (p := 65 ≤ x) (by omega), decide_eq_false (p := x ≤ 57) (by omega), g1, g2, g3, g4, g5]; simp)
    have h3 : ¬ 97 ≤ x := by omega
    have h4 : ¬ 65 ≤ x := by omega
    have h5 : 48 ≤ x := by omega
    have h6 : ¬ x ≤ 57 := by omega
    go_enter Tryz.func61, Tryz.ntmps61
    go_wp2
    go_ret
    exact ⟨ret_bool hr.out.symm, rfl⟩
  case inr.inr.inr.inr.inl =>
    have hr := hid (show plainI x = true by unfold plainI; rw [decide_eq_true h1, decide_eq_true h2]; simp)
    have h3 : ¬ 97 ≤ x := by omega
    go_enter Tryz.func61, Tryz.ntmps61
    go_wp2
    go_ret
    exact ⟨ret_bool hr.out.symm, rfl⟩
  case inr.inr.inr.inr.inr.inl =>
    obtain ⟨g1, g2, g3, g4, g5⟩ := plain_far (x := x) (by omega)
    have hr := hid (show plainI x = false by unfold plainI; rw [decide_eq_false (p := 97 ≤ x) (by omega), decide_eq_false (p := x ≤ 90) (by omega), decide_eq_false (p := x ≤ 57) (by omega), g1, g2, g3, g4, g5]; simp)
    have h3 : ¬ 97 ≤ x := by omega
    have h4 : 65 ≤ x := by omega
    have h7 : ¬ x ≤ 90 := by omega
    have h5 : 48 ≤ x := by omega
    have h6 : ¬ x ≤ 57 := by omega
    go_enter Tryz.func61, Tryz.ntmps61
    go_wp2
    go_ret
    exact ⟨ret_bool hr.out.symm, rfl⟩
  case inr.inr.inr.inr.inr.inr.inl =>
    have hr := hid (show plainI x = true by unfold plainI; rw [decide_eq_true h1, decide_eq_true h2]; simp)
    go_enter Tryz.func61, Tryz.ntmps61
    go_wp2
    go_ret
    exact ⟨ret_bool hr.out.symm, rfl⟩
  case inr.inr.inr.inr.inr.inr.inr =>
    obtain ⟨g1, g2, g3, g4, g5⟩ := plain_far (x := x) (by omega)
    have hr := hid (show plainI x = false by unfold plainI; rw [decide_eq_false (p := x ≤ 122) (by omega), decide_eq_false (p := x ≤ 90) (by omega), decide_eq_false (p := x ≤ 57) (by omega), g1, g2, g3, g4, g5]; simp)
    have h3 : 97 ≤ x := by omega
    have h8 : ¬ x ≤ 122 := by omega
    have h4 : 65 ≤ x := by omega
    have h7 : ¬ x ≤ 90 := by omega
    have h5 : 48 ≤ x := by omega
    have h6 : ¬ x ≤ 57 := by omega
    go_enter Tryz.func61, Tryz.ntmps61
    go_wp2
    go_ret
    exact ⟨ret_bool hr.out.symm, rfl⟩
end Go.Proofs.YtahbhhenobehfaaGreatDoor
