/-
  The walks of New, Next, Below, Split and weight of package random and of their references.
-/
import Derived.Test.YtaekpkedjeefcaaRows
import Derived.Test.YtaekpkedjeefcaaPlain
import Derived.Test.YtaekpkedjeefcaaHeap
import Derived.WalkKit
import Derived.ProofKit
import Derived.OpenShut
namespace Go.Proofs.Ytaekpkedjeefcaa
open Go.ChangeShapes Go.WideShapes Go.ChangeAt Go.RowKit

theorem new_any (s : Int) (w : World) :
    Calls Try.prog 11 #[.int .u64 s] w fun e w' => e = .returned (.agg #[.int .u64 s]) ∧ Below w.heap.size w w' := by
  go_enter Try.func11, Try.ntmps11
  go_wp2
  exact bodyPost_ret (v := .agg #[.int .u64 s]) (by simp [results, Try.results11, go_sem]) rfl ⟨rfl, (Below.refl _ _).alloc (Nat.le_refl _) _⟩
theorem next_any (s : Int) (w : World) :
    Calls Try.prog 12 #[.agg #[.int .u64 s]] w fun e w' => e = .returned (.tuple #[.agg #[.int .u64 (nextS s)], .int .u64 (nextX s)]) ∧ Below w.heap.size w w' := by
  go_enter Try.func12, Try.ntmps12
  go_wp2
  exact bodyPost_ret (v := .tuple #[.agg #[.int .u64 (nextS s)], .int .u64 (nextX s)]) (by simp [results, Try.results12, go_sem]; exact ⟨rfl, rfl⟩) rfl ⟨rfl, ((Below.refl _ _).alloc (Nat.le_refl _) _).alloc (by simp) _⟩
theorem rnext_any (s : Int) (w : World) :
    Calls Try.prog 13 #[.agg #[.int .u64 s]] w fun e w' => e = .returned (.tuple #[.agg #[.int .u64 (nextS s)], .int .u64 (nextX s)]) ∧ Below w.heap.size w w' := by
  go_enter Try.func13, Try.ntmps13
  go_wp2
  exact bodyPost_ret (v := .tuple #[.agg #[.int .u64 (nextS s)], .int .u64 (nextX s)]) (by simp [results, Try.results13, go_sem]; exact ⟨rfl, rfl⟩) rfl ⟨rfl, ((Below.refl _ _).alloc (Nat.le_refl _) _).alloc (by simp) _⟩
theorem below_any (s n : Int) (w : World) (hm : n ≤ 9223372036854775807) :
    Calls Try.prog 14 #[.agg #[.int .u64 s], .int .i64 n] w fun e w' => e = .returned (.tuple #[.agg #[.int .u64 (belowS s n)], .int .i64 (belowX s n)]) ∧ Below w.heap.size w w' := by
  by_cases hn : n < 1
  · have e1 : belowS s n = s := by unfold belowS; rw [if_pos hn]
    have e2 : belowX s n = 0 := by unfold belowX; rw [if_pos hn]
    rw [e1, e2]
    clear e1 e2
    go_enter Try.func14, Try.ntmps14
    go_wp2
    exact bodyPost_ret (v := .tuple #[.agg #[.int .u64 s], .int .i64 0]) (by simp [results, Try.results14, go_sem]) rfl ⟨rfl, (by repeat' (first | with_reducible exact Below.refl _ _ | with_reducible exact Below.refl _ _ | with_reducible refine Below.drew ?_ | with_reducible refine Below.alloc ?_ ?_ _ | with_reducible refine bset ?_ ?_ _ | omega | (simp <;> omega)))⟩
  · have e1 : belowS s n = nextS s := by unfold belowS; rw [if_neg hn]
    have e2 : belowX s n = nextX s % n := by unfold belowX; rw [if_neg hn]
    rw [e1, e2]
    clear e1 e2
    have hp := nextX_nonneg s
    have hlt : nextX s % n < n := Int.emod_lt_of_pos _ (by omega)
    have hge : 0 ≤ nextX s % n := Int.emod_nonneg _ (by omega)
    go_enter Try.func14, Try.ntmps14
    go_wp2_with fail
    refine (next_any _ _).mono ?_
    rintro e w1 ⟨rfl, hb1⟩
    have h0 : Has w1 (w.heap.size) #[.int .u64 s] 24 := Has.below (by repeat' (first | with_reducible exact rfl | ((with_reducible refine Has.newAt ?_); (first | omega | (simp; done) | (simp; omega))) | with_reducible refine Has.drew ?_ | with_reducible refine Has.alloc ?_ _ | with_reducible refine Has.one ?_ _ | with_reducible refine Has.other ?_ ?_ _ | with_reducible exact Has1.of rfl | ((with_reducible refine Has1.newAt ?_); (first | omega | (simp; done) | (simp; omega))) | with_reducible refine Has1.drew ?_ | with_reducible refine Has1.alloc ?_ _ | with_reducible refine Has1.set ?_ _ | with_reducible refine Has1.other ?_ ?_ _ | omega | (simp <;> omega))) hb1 (by first | omega | (simp <;> omega))
    have ch0 : w1.cell? ⟨w.heap.size, 0, none⟩ = some (.int .u64 s) := h0.cell (j := 0) rfl
    have fh0 : w1.frozen? ⟨w.heap.size, 0, none⟩ = false := h0.free 0
    have h1 : Has w1 (w.heap.size + 1) #[.int .u64 0] 24 := Has.below (by repeat' (first | with_reducible exact rfl | ((with_reducible refine Has.newAt ?_); (first | omega | (simp; done) | (simp; omega))) | with_reducible refine Has.drew ?_ | with_reducible refine Has.alloc ?_ _ | with_reducible refine Has.one ?_ _ | with_reducible refine Has.other ?_ ?_ _ | with_reducible exact Has1.of rfl | ((with_reducible refine Has1.newAt ?_); (first | omega | (simp; done) | (simp; omega))) | with_reducible refine Has1.drew ?_ | with_reducible refine Has1.alloc ?_ _ | with_reducible refine Has1.set ?_ _ | with_reducible refine Has1.other ?_ ?_ _ | omega | (simp <;> omega))) hb1 (by first | omega | (simp <;> omega))
    have ch1 : w1.cell? ⟨w.heap.size + 1, 0, none⟩ = some (.int .u64 0) := h1.cell (j := 0) rfl
    have fh1 : w1.frozen? ⟨w.heap.size + 1, 0, none⟩ = false := h1.free 0
    have hz1 : w.heap.size + 2 ≤ w1.heap.size := by have := hb1.size; first | omega | (simp at this; omega)
    have B1 : Below w.heap.size w w1 := Below.trans (by repeat' (first | with_reducible exact Below.refl _ _ | with_reducible exact Below.refl _ _ | with_reducible refine Below.drew ?_ | with_reducible refine Below.alloc ?_ ?_ _ | with_reducible refine bset ?_ ?_ _ | omega | (simp <;> omega))) (hb1.mono (by first | omega | (simp <;> omega)))
    go_wp2_with fail
    go_region
    go_wp2
    refine bodyPost_ret (v := .tuple #[.agg #[.int .u64 (nextS s)], .int .i64 (nextX s % n)]) (by simp [results, Try.results14, go_sem, ch1]) rfl ⟨rfl, ?_⟩
    exact (by repeat' (first | with_reducible exact B1 | with_reducible exact Below.refl _ _ | with_reducible refine Below.drew ?_ | with_reducible refine Below.alloc ?_ ?_ _ | with_reducible refine bset ?_ ?_ _ | omega | (simp <;> omega)))
theorem rbelow_any (s n : Int) (w : World) (hm : n ≤ 9223372036854775807) :
    Calls Try.prog 15 #[.agg #[.int .u64 s], .int .i64 n] w fun e w' => e = .returned (.tuple #[.agg #[.int .u64 (belowS s n)], .int .i64 (belowX s n)]) ∧ Below w.heap.size w w' := by
  by_cases hn : n < 1
  · have e1 : belowS s n = s := by unfold belowS; rw [if_pos hn]
    have e2 : belowX s n = 0 := by unfold belowX; rw [if_pos hn]
    rw [e1, e2]
    clear e1 e2
    go_enter Try.func15, Try.ntmps15
    go_wp2
    exact bodyPost_ret (v := .tuple #[.agg #[.int .u64 s], .int .i64 0]) (by simp [results, Try.results15, go_sem]) rfl ⟨rfl, (by repeat' (first | with_reducible exact Below.refl _ _ | with_reducible exact Below.refl _ _ | with_reducible refine Below.drew ?_ | with_reducible refine Below.alloc ?_ ?_ _ | with_reducible refine bset ?_ ?_ _ | omega | (simp <;> omega)))⟩
  · have e1 : belowS s n = nextS s := by unfold belowS; rw [if_neg hn]
    have e2 : belowX s n = nextX s % n := by unfold belowX; rw [if_neg hn]
    rw [e1, e2]
    clear e1 e2
    have hp := nextX_nonneg s
    have hlt : nextX s % n < n := Int.emod_lt_of_pos _ (by omega)
    have hge : 0 ≤ nextX s % n := Int.emod_nonneg _ (by omega)
    go_enter Try.func15, Try.ntmps15
    go_wp2_with fail
    refine (rnext_any _ _).mono ?_
    rintro e w1 ⟨rfl, hb1⟩
    have h1 : Has w1 (w.heap.size + 1) #[.int .u64 0] 24 := Has.below (by repeat' (first | with_reducible exact rfl | ((with_reducible refine Has.newAt ?_); (first | omega | (simp; done) | (simp; omega))) | with_reducible refine Has.drew ?_ | with_reducible refine Has.alloc ?_ _ | with_reducible refine Has.one ?_ _ | with_reducible refine Has.other ?_ ?_ _ | with_reducible exact Has1.of rfl | ((with_reducible refine Has1.newAt ?_); (first | omega | (simp; done) | (simp; omega))) | with_reducible refine Has1.drew ?_ | with_reducible refine Has1.alloc ?_ _ | with_reducible refine Has1.set ?_ _ | with_reducible refine Has1.other ?_ ?_ _ | omega | (simp <;> omega))) hb1 (by first | omega | (simp <;> omega))
    have ch1 : w1.cell? ⟨w.heap.size + 1, 0, none⟩ = some (.int .u64 0) := h1.cell (j := 0) rfl
    have fh1 : w1.frozen? ⟨w.heap.size + 1, 0, none⟩ = false := h1.free 0
    have hz1 : w.heap.size + 2 ≤ w1.heap.size := by have := hb1.size; first | omega | (simp at this; omega)
    have B1 : Below w.heap.size w w1 := Below.trans (by repeat' (first | with_reducible exact Below.refl _ _ | with_reducible exact Below.refl _ _ | with_reducible refine Below.drew ?_ | with_reducible refine Below.alloc ?_ ?_ _ | with_reducible refine bset ?_ ?_ _ | omega | (simp <;> omega))) (hb1.mono (by first | omega | (simp <;> omega)))
    go_wp2_with fail
    obtain ⟨w2, ew2⟩ : ∃ w2, w2 = w1.alloc (.cells #[.int .u64 (nextS s)] 24) := ⟨_, rfl⟩
    rw [← ew2]
    have k0 : Has w2 (w1.heap.size) #[.int .u64 (nextS s)] 24 := by rw [ew2]; exact (by repeat' (first | with_reducible exact rfl | ((with_reducible refine Has.newAt ?_); (first | omega | (simp; done) | (simp; omega))) | with_reducible refine Has.drew ?_ | with_reducible refine Has.alloc ?_ _ | with_reducible refine Has.one ?_ _ | with_reducible refine Has.other ?_ ?_ _ | with_reducible exact Has1.of rfl | ((with_reducible refine Has1.newAt ?_); (first | omega | (simp; done) | (simp; omega))) | with_reducible refine Has1.drew ?_ | with_reducible refine Has1.alloc ?_ _ | with_reducible refine Has1.set ?_ _ | with_reducible refine Has1.other ?_ ?_ _ | omega | (simp <;> omega)))
    have k1 : Has w2 (w.heap.size + 1) #[.int .u64 0] 24 := by rw [ew2]; exact (by repeat' (first | with_reducible exact h1 | ((with_reducible refine Has.newAt ?_); (first | omega | (simp; done) | (simp; omega))) | with_reducible refine Has.drew ?_ | with_reducible refine Has.alloc ?_ _ | with_reducible refine Has.one ?_ _ | with_reducible refine Has.other ?_ ?_ _ | with_reducible exact Has1.of h1 | ((with_reducible refine Has1.newAt ?_); (first | omega | (simp; done) | (simp; omega))) | with_reducible refine Has1.drew ?_ | with_reducible refine Has1.alloc ?_ _ | with_reducible refine Has1.set ?_ _ | with_reducible refine Has1.other ?_ ?_ _ | omega | (simp <;> omega)))
    have ck0 : w2.cell? ⟨w1.heap.size, 0, none⟩ = some (.int .u64 (nextS s)) := k0.cell (j := 0) rfl
    have fk0 : w2.frozen? ⟨w1.heap.size, 0, none⟩ = false := k0.free 0
    have ck1 : w2.cell? ⟨w.heap.size + 1, 0, none⟩ = some (.int .u64 0) := k1.cell (j := 0) rfl
    have fk1 : w2.frozen? ⟨w.heap.size + 1, 0, none⟩ = false := k1.free 0
    have B2 : Below w.heap.size w w2 := by rw [ew2]; exact (by repeat' (first | with_reducible exact B1 | with_reducible exact Below.refl _ _ | with_reducible refine Below.drew ?_ | with_reducible refine Below.alloc ?_ ?_ _ | with_reducible refine bset ?_ ?_ _ | omega | (simp <;> omega)))
    clear ew2 ch1 fh1
    go_region
    go_wp2
    refine bodyPost_ret (v := .tuple #[.agg #[.int .u64 (nextS s)], .int .i64 (nextX s % n)]) (by simp [results, Try.results15, go_sem, ck1]) rfl ⟨rfl, ?_⟩
    exact (by repeat' (first | with_reducible exact B2 | with_reducible exact Below.refl _ _ | with_reducible refine Below.drew ?_ | with_reducible refine Below.alloc ?_ ?_ _ | with_reducible refine bset ?_ ?_ _ | omega | (simp <;> omega)))
theorem split_any (s : Int) (w : World) :
    Calls Try.prog 24 #[.agg #[.int .u64 s]] w fun e w' => e = .returned (.tuple #[.agg #[.int .u64 (nextX s)], .agg #[.int .u64 (nextX (nextS s))]]) ∧ Below w.heap.size w w' := by
  go_enter Try.func24, Try.ntmps24
  go_wp2_with fail
  refine (next_any _ _).mono ?_
  rintro e w1 ⟨rfl, hb1⟩
  have h0 : Has w1 (w.heap.size) #[.int .u64 s] 24 := Has.below (by repeat' (first | with_reducible exact rfl | ((with_reducible refine Has.newAt ?_); (first | omega | (simp; done) | (simp; omega))) | with_reducible refine Has.drew ?_ | with_reducible refine Has.alloc ?_ _ | with_reducible refine Has.one ?_ _ | with_reducible refine Has.other ?_ ?_ _ | with_reducible exact Has1.of rfl | ((with_reducible refine Has1.newAt ?_); (first | omega | (simp; done) | (simp; omega))) | with_reducible refine Has1.drew ?_ | with_reducible refine Has1.alloc ?_ _ | with_reducible refine Has1.set ?_ _ | with_reducible refine Has1.other ?_ ?_ _ | omega | (simp <;> omega))) hb1 (by first | omega | (simp <;> omega))
  have ch0 : w1.cell? ⟨w.heap.size, 0, none⟩ = some (.int .u64 s) := h0.cell (j := 0) rfl
  have fh0 : w1.frozen? ⟨w.heap.size, 0, none⟩ = false := h0.free 0
  have h1 : Has w1 (w.heap.size + 1) #[.int .u64 0] 24 := Has.below (by repeat' (first | with_reducible exact rfl | ((with_reducible refine Has.newAt ?_); (first | omega | (simp; done) | (simp; omega))) | with_reducible refine Has.drew ?_ | with_reducible refine Has.alloc ?_ _ | with_reducible refine Has.one ?_ _ | with_reducible refine Has.other ?_ ?_ _ | with_reducible exact Has1.of rfl | ((with_reducible refine Has1.newAt ?_); (first | omega | (simp; done) | (simp; omega))) | with_reducible refine Has1.drew ?_ | with_reducible refine Has1.alloc ?_ _ | with_reducible refine Has1.set ?_ _ | with_reducible refine Has1.other ?_ ?_ _ | omega | (simp <;> omega))) hb1 (by first | omega | (simp <;> omega))
  have h2 : Has w1 (w.heap.size + 2) #[.int .u64 0] 24 := Has.below (by repeat' (first | with_reducible exact rfl | ((with_reducible refine Has.newAt ?_); (first | omega | (simp; done) | (simp; omega))) | with_reducible refine Has.drew ?_ | with_reducible refine Has.alloc ?_ _ | with_reducible refine Has.one ?_ _ | with_reducible refine Has.other ?_ ?_ _ | with_reducible exact Has1.of rfl | ((with_reducible refine Has1.newAt ?_); (first | omega | (simp; done) | (simp; omega))) | with_reducible refine Has1.drew ?_ | with_reducible refine Has1.alloc ?_ _ | with_reducible refine Has1.set ?_ _ | with_reducible refine Has1.other ?_ ?_ _ | omega | (simp <;> omega))) hb1 (by first | omega | (simp <;> omega))
  have hz1 : w.heap.size + 3 ≤ w1.heap.size := by have := hb1.size; first | omega | (simp at this; omega)
  have B1 : Below w.heap.size w w1 := Below.trans (by repeat' (first | with_reducible exact Below.refl _ _ | with_reducible exact Below.refl _ _ | with_reducible refine Below.drew ?_ | with_reducible refine Below.alloc ?_ ?_ _ | with_reducible refine bset ?_ ?_ _ | omega | (simp <;> omega))) (hb1.mono (by first | omega | (simp <;> omega)))
  go_wp2_with fail
  refine (next_any _ _).mono ?_
  rintro e w2 ⟨rfl, hb2⟩
  have k1 : Has w2 (w.heap.size + 1) #[.int .u64 0] 24 := Has.below (by repeat' (first | with_reducible exact h1 | ((with_reducible refine Has.newAt ?_); (first | omega | (simp; done) | (simp; omega))) | with_reducible refine Has.drew ?_ | with_reducible refine Has.alloc ?_ _ | with_reducible refine Has.one ?_ _ | with_reducible refine Has.other ?_ ?_ _ | with_reducible exact Has1.of h1 | ((with_reducible refine Has1.newAt ?_); (first | omega | (simp; done) | (simp; omega))) | with_reducible refine Has1.drew ?_ | with_reducible refine Has1.alloc ?_ _ | with_reducible refine Has1.set ?_ _ | with_reducible refine Has1.other ?_ ?_ _ | omega | (simp <;> omega))) hb2 (by first | omega | (simp <;> omega))
  have k2 : Has w2 (w.heap.size + 2) #[.int .u64 0] 24 := Has.below (by repeat' (first | with_reducible exact h2 | ((with_reducible refine Has.newAt ?_); (first | omega | (simp; done) | (simp; omega))) | with_reducible refine Has.drew ?_ | with_reducible refine Has.alloc ?_ _ | with_reducible refine Has.one ?_ _ | with_reducible refine Has.other ?_ ?_ _ | with_reducible exact Has1.of h2 | ((with_reducible refine Has1.newAt ?_); (first | omega | (simp; done) | (simp; omega))) | with_reducible refine Has1.drew ?_ | with_reducible refine Has1.alloc ?_ _ | with_reducible refine Has1.set ?_ _ | with_reducible refine Has1.other ?_ ?_ _ | omega | (simp <;> omega))) hb2 (by first | omega | (simp <;> omega))
  have hz2 : w.heap.size + 3 ≤ w2.heap.size := by have := hb2.size; first | omega | (simp at this; omega)
  have B2 : Below w.heap.size w w2 := Below.trans (by repeat' (first | with_reducible exact B1 | with_reducible exact Below.refl _ _ | with_reducible refine Below.drew ?_ | with_reducible refine Below.alloc ?_ ?_ _ | with_reducible refine bset ?_ ?_ _ | omega | (simp <;> omega))) (hb2.mono (by first | omega | (simp <;> omega)))
  go_wp2_with fail
  refine (new_any _ _).mono ?_
  rintro e w3 ⟨rfl, hb3⟩
  have l1 : Has w3 (w.heap.size + 1) #[.int .u64 0] 24 := Has.below (by repeat' (first | with_reducible exact k1 | ((with_reducible refine Has.newAt ?_); (first | omega | (simp; done) | (simp; omega))) | with_reducible refine Has.drew ?_ | with_reducible refine Has.alloc ?_ _ | with_reducible refine Has.one ?_ _ | with_reducible refine Has.other ?_ ?_ _ | with_reducible exact Has1.of k1 | ((with_reducible refine Has1.newAt ?_); (first | omega | (simp; done) | (simp; omega))) | with_reducible refine Has1.drew ?_ | with_reducible refine Has1.alloc ?_ _ | with_reducible refine Has1.set ?_ _ | with_reducible refine Has1.other ?_ ?_ _ | omega | (simp <;> omega))) hb3 (by first | omega | (simp <;> omega))
  have l2 : Has w3 (w.heap.size + 2) #[.int .u64 0] 24 := Has.below (by repeat' (first | with_reducible exact k2 | ((with_reducible refine Has.newAt ?_); (first | omega | (simp; done) | (simp; omega))) | with_reducible refine Has.drew ?_ | with_reducible refine Has.alloc ?_ _ | with_reducible refine Has.one ?_ _ | with_reducible refine Has.other ?_ ?_ _ | with_reducible exact Has1.of k2 | ((with_reducible refine Has1.newAt ?_); (first | omega | (simp; done) | (simp; omega))) | with_reducible refine Has1.drew ?_ | with_reducible refine Has1.alloc ?_ _ | with_reducible refine Has1.set ?_ _ | with_reducible refine Has1.other ?_ ?_ _ | omega | (simp <;> omega))) hb3 (by first | omega | (simp <;> omega))
  have hz3 : w.heap.size + 3 ≤ w3.heap.size := by have := hb3.size; first | omega | (simp at this; omega)
  have B3 : Below w.heap.size w w3 := Below.trans (by repeat' (first | with_reducible exact B2 | with_reducible exact Below.refl _ _ | with_reducible refine Below.drew ?_ | with_reducible refine Below.alloc ?_ ?_ _ | with_reducible refine bset ?_ ?_ _ | omega | (simp <;> omega))) (hb3.mono (by first | omega | (simp <;> omega)))
  go_wp2_with fail
  refine (new_any _ _).mono ?_
  rintro e w4 ⟨rfl, hb4⟩
  have m1 : Has w4 (w.heap.size + 1) #[.int .u64 0] 24 := Has.below (by repeat' (first | with_reducible exact l1 | ((with_reducible refine Has.newAt ?_); (first | omega | (simp; done) | (simp; omega))) | with_reducible refine Has.drew ?_ | with_reducible refine Has.alloc ?_ _ | with_reducible refine Has.one ?_ _ | with_reducible refine Has.other ?_ ?_ _ | with_reducible exact Has1.of l1 | ((with_reducible refine Has1.newAt ?_); (first | omega | (simp; done) | (simp; omega))) | with_reducible refine Has1.drew ?_ | with_reducible refine Has1.alloc ?_ _ | with_reducible refine Has1.set ?_ _ | with_reducible refine Has1.other ?_ ?_ _ | omega | (simp <;> omega))) hb4 (by first | omega | (simp <;> omega))
  have m2 : Has w4 (w.heap.size + 2) #[.int .u64 0] 24 := Has.below (by repeat' (first | with_reducible exact l2 | ((with_reducible refine Has.newAt ?_); (first | omega | (simp; done) | (simp; omega))) | with_reducible refine Has.drew ?_ | with_reducible refine Has.alloc ?_ _ | with_reducible refine Has.one ?_ _ | with_reducible refine Has.other ?_ ?_ _ | with_reducible exact Has1.of l2 | ((with_reducible refine Has1.newAt ?_); (first | omega | (simp; done) | (simp; omega))) | with_reducible refine Has1.drew ?_ | with_reducible refine Has1.alloc ?_ _ | with_reducible refine Has1.set ?_ _ | with_reducible refine Has1.other ?_ ?_ _ | omega | (simp <;> omega))) hb4 (by first | omega | (simp <;> omega))
  have cm1 : w4.cell? ⟨w.heap.size + 1, 0, none⟩ = some (.int .u64 0) := m1.cell (j := 0) rfl
  have fm1 : w4.frozen? ⟨w.heap.size + 1, 0, none⟩ = false := m1.free 0
  have cm2 : w4.cell? ⟨w.heap.size + 2, 0, none⟩ = some (.int .u64 0) := m2.cell (j := 0) rfl
  have fm2 : w4.frozen? ⟨w.heap.size + 2, 0, none⟩ = false := m2.free 0
  have B4 : Below w.heap.size w w4 := Below.trans (by repeat' (first | with_reducible exact B3 | with_reducible exact Below.refl _ _ | with_reducible refine Below.drew ?_ | with_reducible refine Below.alloc ?_ ?_ _ | with_reducible refine bset ?_ ?_ _ | omega | (simp <;> omega))) (hb4.mono (by first | omega | (simp <;> omega)))
  go_wp2_with fail
  refine bodyPost_ret (v := .tuple #[.agg #[.int .u64 (nextX s)], .agg #[.int .u64 (nextX (nextS s))]]) (by simp [results, Try.results24, go_sem, cm1, cm2]) rfl ⟨rfl, ?_⟩
  exact (by repeat' (first | with_reducible exact B4 | with_reducible exact Below.refl _ _ | with_reducible refine Below.drew ?_ | with_reducible refine Below.alloc ?_ ?_ _ | with_reducible refine bset ?_ ?_ _ | omega | (simp <;> omega)))
theorem weight_any (n : Int) (w : World) :
    Calls Try.prog 26 #[.int .i64 n] w fun e w' => e = .returned (.int .i64 (weight n)) ∧ w = w' := by
  by_cases h1 : n < 0
  · have e : weight n = 0 := by unfold weight; rw [if_pos h1]
    rw [e]
    clear e
    go_enter Try.func26, Try.ntmps26
    go_wp2
    go_ret
    exact ⟨rfl, rfl⟩
  · by_cases h2 : 4294967296 < n
    · have e : weight n = 4294967296 := by unfold weight; rw [if_neg h1, if_pos h2]
      rw [e]
      clear e
      go_enter Try.func26, Try.ntmps26
      go_wp2
      go_ret
      exact ⟨rfl, rfl⟩
    · have e : weight n = n := by unfold weight; rw [if_neg h1, if_neg h2]
      rw [e]
      clear e
      go_enter Try.func26, Try.ntmps26
      go_wp2
      go_ret
      exact ⟨rfl, rfl⟩
theorem rweight_any (n : Int) (w : World) :
    Calls Try.prog 27 #[.int .i64 n] w fun e w' => e = .returned (.int .i64 (weight n)) ∧ w = w' := by
  by_cases h1 : n < 0
  · have e : weight n = 0 := by unfold weight; rw [if_pos h1]
    rw [e]
    clear e
    go_enter Try.func27, Try.ntmps27
    go_wp2
    go_ret
    exact ⟨rfl, rfl⟩
  · by_cases h2 : 4294967296 < n
    · have e : weight n = 4294967296 := by unfold weight; rw [if_neg h1, if_pos h2]
      rw [e]
      clear e
      go_enter Try.func27, Try.ntmps27
      go_wp2
      go_ret
      exact ⟨rfl, rfl⟩
    · have e : weight n = n := by unfold weight; rw [if_neg h1, if_neg h2]
      rw [e]
      clear e
      go_enter Try.func27, Try.ntmps27
      go_wp2
      go_ret
      exact ⟨rfl, rfl⟩
end Go.Proofs.Ytaekpkedjeefcaa
