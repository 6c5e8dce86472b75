/-
  The walks of drawer, of the function that it returns, and of Shuffle.
-/
import Derived.Test.YtaekpkedjeefcaaRows
import Derived.Test.YtaekpkedjeefcaaPlain
import Derived.Test.YtaekpkedjeefcaaHeap
import Derived.Test.YtaekpkedjeefcaaW1
import Derived.WalkKit
import Derived.ProofKit
import Derived.OpenShut
import Derived.BigRegion
import Derived.Outline
namespace Go.Proofs.Ytaekpkedjeefcaa
open Go.ChangeShapes Go.WideShapes Go.ChangeAt Go.RowKit

theorem drawer_any (g : Nat) (w : World) :
    Calls Try.prog 25 #[.pointer (some ⟨g, 0, none⟩)] w fun e w' => e = .returned (.func (Fn.func 28) #[] #[.pointer (some ⟨w.heap.size, 0, none⟩)]) ∧ w.alloc (.cells #[.pointer (some ⟨g, 0, none⟩)] 49) = w' := by
  go_enter Try.func25, Try.ntmps25
  go_wp2
  go_ret
  exact ⟨rfl, rfl⟩

/-- What the drawing function does to the world in which the generator lies in block g: it draws. -/
def Drawn (n s : Int) (g : Nat) (w : World) (e : Ending) (w' : World) : Prop :=
  ∃ j : Nat, (belowX s n).toNat = j ∧ (j : Int) = belowX s n ∧ e = .returned (.int .i64 j) ∧ Has w' g #[.int .u64 (belowS s n)] 24 ∧ Only [g] w w'
theorem draw_any (n s : Int) (c g : Nat) (w : World) (hm : n ≤ 9223372036854775807) (hc : Has w c #[.pointer (some ⟨g, 0, none⟩)] 49) (hg : Has w g #[.int .u64 s] 24) :
    Calls Try.prog 28 #[.int .i64 n, .pointer (some ⟨c, 0, none⟩)] w (Drawn n s g w) := by
  have cc : w.cell? ⟨c, 0, none⟩ = some (.pointer (some ⟨g, 0, none⟩)) := hc.cell (j := 0) rfl
  have cg : w.cell? ⟨g, 0, none⟩ = some (.int .u64 s) := hg.cell (j := 0) rfl
  have lc := hc.lt
  have lg := hg.lt
  go_enter Try.func28, Try.ntmps28
  go_wp2_with fail
  refine (below_any _ _ _ hm).mono ?_
  rintro e w1 ⟨rfl, hb1⟩
  have lz := hb1.size
  have kc := hc.below hb1 lc
  have kg := hg.below hb1 lg
  have lc1 := kc.lt
  have lg1 := kg.lt
  have ckc : w1.cell? ⟨c, 0, none⟩ = some (.pointer (some ⟨g, 0, none⟩)) := kc.cell (j := 0) rfl
  have fkc : w1.frozen? ⟨c, 0, none⟩ = false := kc.free 0
  have ckg : w1.cell? ⟨g, 0, none⟩ = some (.int .u64 s) := kg.cell (j := 0) rfl
  have fkg : w1.frozen? ⟨g, 0, none⟩ = false := kg.free 0
  obtain ⟨x, hx⟩ : ∃ x, belowX s n = x := ⟨_, rfl⟩
  rw [hx]
  have HX := hid hx
  clear hx
  go_wp2_with fail
  go_ret
  have h0 : 0 ≤ x := by have := belowX_nonneg s n; rw [HX.out] at this; exact this
  obtain ⟨j, rfl⟩ := Int.eq_ofNat_of_zero_le h0
  refine ⟨j, by rw [HX.out]; rfl, HX.out.symm, rfl, ?_, ?_⟩
  · exact (by repeat' (first | with_reducible exact kg | ((with_reducible refine Has.newAt ?_); (first | omega | (simp; done) | (simp; omega))) | with_reducible refine Has.drew ?_ | with_reducible refine Has.alloc ?_ _ | with_reducible refine Has.one ?_ _ | with_reducible refine Has.other ?_ ?_ _ | with_reducible exact Has1.of kg | ((with_reducible refine Has1.newAt ?_); (first | omega | (simp; done) | (simp; omega))) | with_reducible refine Has1.drew ?_ | with_reducible refine Has1.alloc ?_ _ | with_reducible refine Has1.set ?_ _ | with_reducible refine Has1.other ?_ ?_ _ | omega | (simp <;> omega)))
  · have O1 : Only [g] w w1 := (Only.refl [g] w).below hb1 (Nat.le_refl _)
    exact (by repeat' (first | with_reducible exact O1 | with_reducible exact Only.refl _ _ | with_reducible refine Only.drew ?_ | with_reducible refine Only.alloc ?_ _ | with_reducible refine Only.setIn ?_ (by simp; done) _ | with_reducible refine Only.setNew ?_ ?_ _ | omega | (simp <;> omega)))

theorem info_int : (Try.prog.info? 3).map (fun i => (i.zero, i.size, i.bytes)) = some (some (.int .i64 0), 1, 8) := by kernel_rfl
theorem make_ints (m : Nat) (hm : m ≤ 4096) (w : World) : (Instr.makeSlice 34 (.int .i64 (m : Int)) (.int .i64 (m : Int))).run Try.prog w = .ok (.slice (some ⟨w.heap.size, 0, none⟩) m m) (w.alloc (.cells (ints (List.replicate m 0)) 3)) := by
  obtain ⟨i0, hi, hz0, hz1, hz2⟩ := info_parts info_int
  have h := run_make (P := Try.prog) w 34 3 i0 (.int .i64 0) Try.underlying34 hi hz0 .i64 .i64 (m : Int) (m : Int) (by omega) (by omega) (by rw [hz2]; omega) (by omega)
  rw [hz1] at h
  have e : madeCells (Value.int .i64 0).cells (((m : Int)).toNat * 1) = ints (List.replicate m 0) := by
    apply Array.toList_inj.1
    show (madeCells #[Value.int .i64 0] _).toList = _
    rw [toList_madeCells_one]
    simp [ints]
  rw [e] at h
  simpa using h
end Go.Proofs.Ytaekpkedjeefcaa
