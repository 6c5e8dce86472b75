/-
  The walk of awake: the chapter's examples.
-/
import Derived.Test.YtaekpkedjeefcaaRows
import Derived.Test.YtaekpkedjeefcaaPlain
import Derived.Test.YtaekpkedjeefcaaHeap
import Derived.Test.YtaekpkedjeefcaaW1
import Derived.Test.YtaekpkedjeefcaaW2
import Derived.Test.YtaekpkedjeefcaaW5
import Derived.Test.YtaekpkedjeefcaaW6
import Derived.WalkKit
import Derived.ProofKit
import Derived.OpenShut
import Derived.Outline
namespace Go.Proofs.Ytaekpkedjeefcaa
open Go.ChangeShapes Go.WideShapes Go.ChangeAt Go.RowKit

theorem next_0 (w : World) : Calls Try.prog 12 #[.agg #[.int .u64 0]] w fun e w' => e = .returned (.tuple #[.agg #[.int .u64 11400714819323198485], .int .u64 16294208416658607535]) ∧ Below w.heap.size w w' := by
  have h := next_any 0 w
  rwa [show nextS 0 = 11400714819323198485 from by decide +kernel, show nextX 0 = 16294208416658607535 from by decide +kernel] at h
theorem next_1 (w : World) : Calls Try.prog 12 #[.agg #[.int .u64 11400714819323198485]] w fun e w' => e = .returned (.tuple #[.agg #[.int .u64 (nextS 11400714819323198485)], .int .u64 7960286522194355700]) ∧ Below w.heap.size w w' := by
  have h := next_any 11400714819323198485 w
  rwa [show nextX 11400714819323198485 = 7960286522194355700 from by decide +kernel] at h
theorem below_0 (w : World) : Calls Try.prog 14 #[.agg #[.int .u64 0], .int .i64 10] w fun e w' => e = .returned (.tuple #[.agg #[.int .u64 (belowS 0 10)], .int .i64 5]) ∧ Below w.heap.size w w' := by
  have h := below_any 0 10 w (by omega)
  rwa [show belowX 0 10 = 5 from by decide +kernel] at h
def Shuf3 (w : World) (e : Ending) (w' : World) : Prop :=
  ∃ b, w.heap.size ≤ b ∧ e = .returned (.tuple #[.agg #[.int .u64 (shufS 0 3)], .slice (some ⟨b, 0, none⟩) 3 3]) ∧ Has w' b (ints [2, 0, 1]) 3 ∧ Below w.heap.size w w'
theorem shuffle_0 (w : World) : Calls Try.prog 19 #[.agg #[.int .u64 0], .int .i64 3] w (Shuf3 w) := by
  have h := shuffle_any 0 3 w
  unfold Shuffled at h
  rw [show clampN 3 = 3 from rfl, show shufL 0 3 = [2, 0, 1] from by decide +kernel] at h
  exact h
theorem pick_0 (b : Nat) (w : World) (hr : Row w (some ⟨b, 0, none⟩) [1, 0, 2]) : Calls Try.prog 22 #[.agg #[.int .u64 0], .slice (some ⟨b, 0, none⟩) 3 3] w fun e w' => e = .returned (.tuple #[.agg #[.int .u64 (pickS 0 [1, 0, 2])], .int .i64 2]) ∧ Below w.heap.size w w' := by
  have h := pick_any 0 (some ⟨b, 0, none⟩) 3 3 [1, 0, 2] w (by omega) rfl hr
  rwa [show pickX 0 [1, 0, 2] = 2 from by decide +kernel] at h
theorem seed_a (w : World) : Calls Try.prog 17 #[.string ⟨#[97]⟩] w fun e w' => e = .returned (.int .u64 12638187200555641996) ∧ w = w' := by
  have h := seed_any ⟨#[97]⟩ w (by decide)
  rwa [show fnv 14695981039346656037 (ByteArray.mk #[97]).data.toList = 12638187200555641996 from by decide +kernel] at h

set_option maxRecDepth 100000 in
set_option maxHeartbeats 1000000 in
theorem awake_any (w : World) : Calls Try.prog 16 #[] w fun e w' => e = .returned (.bool true) ∧ Below w.heap.size w w' := by
  go_enter Try.func16, Try.ntmps16
  go_wp2_with fail
  refine (new_any _ _).mono ?_
  rintro e w1 ⟨rfl, hb1⟩
  have B1 : Below w.heap.size w w1 := Below.trans (by repeat' (first | with_reducible exact rfl | with_reducible exact Below.refl _ _ | with_reducible refine Below.drew ?_ | with_reducible refine Below.alloc ?_ ?_ _ | with_reducible refine bset ?_ ?_ _ | omega | (simp <;> omega))) (hb1.mono (by first | omega | (simp <;> omega)))
  have hz1 := B1.size
  clear hb1
  go_wp2_with fail
  refine (next_0 _).mono ?_
  rintro e w2 ⟨rfl, hb2⟩
  have B2 : Below w.heap.size w w2 := Below.trans (by repeat' (first | with_reducible exact B1 | with_reducible exact Below.refl _ _ | with_reducible refine Below.drew ?_ | with_reducible refine Below.alloc ?_ ?_ _ | with_reducible refine bset ?_ ?_ _ | omega | (simp <;> omega))) (hb2.mono (by first | omega | (simp <;> omega)))
  have hz2 := B2.size
  clear hb2 B1
  go_wp2_with fail
  refine (next_1 _).mono ?_
  rintro e w3 ⟨rfl, hb3⟩
  have g_3 : Has w3 (w2.heap.size) #[.int .u64 11400714819323198485] 24 := Has.below (by repeat' (first | with_reducible exact rfl | ((with_reducible refine Has.newAt ?_); (first | omega | (simp; done) | (simp; omega))) | with_reducible refine Has.drew ?_ | with_reducible refine Has.alloc ?_ _ | with_reducible refine Has.one ?_ _ | with_reducible refine Has.other ?_ ?_ _ | with_reducible exact Has1.of rfl | ((with_reducible refine Has1.newAt ?_); (first | omega | (simp; done) | (simp; omega))) | with_reducible refine Has1.drew ?_ | with_reducible refine Has1.alloc ?_ _ | with_reducible refine Has1.set ?_ _ | with_reducible refine Has1.other ?_ ?_ _ | omega | (simp <;> omega))) hb3 (by first | omega | (simp <;> omega))
  have Lg_3 := g_3.lt
  have B3 : Below w.heap.size w w3 := Below.trans (by repeat' (first | with_reducible exact B2 | with_reducible exact Below.refl _ _ | with_reducible refine Below.drew ?_ | with_reducible refine Below.alloc ?_ ?_ _ | with_reducible refine bset ?_ ?_ _ | omega | (simp <;> omega))) (hb3.mono (by first | omega | (simp <;> omega)))
  have hz3 := B3.size
  clear hb3 B2
  go_wp2_with fail
  refine (new_any _ _).mono ?_
  rintro e w4 ⟨rfl, hb4⟩
  have g_4 : Has w4 (w2.heap.size) #[.int .u64 11400714819323198485] 24 := Has.below (by repeat' (first | with_reducible exact g_3 | ((with_reducible refine Has.newAt ?_); (first | omega | (simp; done) | (simp; omega))) | with_reducible refine Has.drew ?_ | with_reducible refine Has.alloc ?_ _ | with_reducible refine Has.one ?_ _ | with_reducible refine Has.other ?_ ?_ _ | with_reducible exact Has1.of g_3 | ((with_reducible refine Has1.newAt ?_); (first | omega | (simp; done) | (simp; omega))) | with_reducible refine Has1.drew ?_ | with_reducible refine Has1.alloc ?_ _ | with_reducible refine Has1.set ?_ _ | with_reducible refine Has1.other ?_ ?_ _ | omega | (simp <;> omega))) hb4 (by first | omega | (simp <;> omega))
  have Lg_4 := g_4.lt
  have B4 : Below w.heap.size w w4 := Below.trans (by repeat' (first | with_reducible exact B3 | with_reducible exact Below.refl _ _ | with_reducible refine Below.drew ?_ | with_reducible refine Below.alloc ?_ ?_ _ | with_reducible refine bset ?_ ?_ _ | omega | (simp <;> omega))) (hb4.mono (by first | omega | (simp <;> omega)))
  have hz4 := B4.size
  clear hb4 g_3 Lg_3 B3
  go_wp2_with fail
  refine (below_0 _).mono ?_
  rintro e w5 ⟨rfl, hb5⟩
  have g_5 : Has w5 (w2.heap.size) #[.int .u64 11400714819323198485] 24 := Has.below (by repeat' (first | with_reducible exact g_4 | ((with_reducible refine Has.newAt ?_); (first | omega | (simp; done) | (simp; omega))) | with_reducible refine Has.drew ?_ | with_reducible refine Has.alloc ?_ _ | with_reducible refine Has.one ?_ _ | with_reducible refine Has.other ?_ ?_ _ | with_reducible exact Has1.of g_4 | ((with_reducible refine Has1.newAt ?_); (first | omega | (simp; done) | (simp; omega))) | with_reducible refine Has1.drew ?_ | with_reducible refine Has1.alloc ?_ _ | with_reducible refine Has1.set ?_ _ | with_reducible refine Has1.other ?_ ?_ _ | omega | (simp <;> omega))) hb5 (by first | omega | (simp <;> omega))
  have Lg_5 := g_5.lt
  have B5 : Below w.heap.size w w5 := Below.trans (by repeat' (first | with_reducible exact B4 | with_reducible exact Below.refl _ _ | with_reducible refine Below.drew ?_ | with_reducible refine Below.alloc ?_ ?_ _ | with_reducible refine bset ?_ ?_ _ | omega | (simp <;> omega))) (hb5.mono (by first | omega | (simp <;> omega)))
  have hz5 := B5.size
  clear hb5 g_4 Lg_4 B4
  go_wp2_with fail
  refine (new_any _ _).mono ?_
  rintro e w6 ⟨rfl, hb6⟩
  have g_6 : Has w6 (w2.heap.size) #[.int .u64 11400714819323198485] 24 := Has.below (by repeat' (first | with_reducible exact g_5 | ((with_reducible refine Has.newAt ?_); (first | omega | (simp; done) | (simp; omega))) | with_reducible refine Has.drew ?_ | with_reducible refine Has.alloc ?_ _ | with_reducible refine Has.one ?_ _ | with_reducible refine Has.other ?_ ?_ _ | with_reducible exact Has1.of g_5 | ((with_reducible refine Has1.newAt ?_); (first | omega | (simp; done) | (simp; omega))) | with_reducible refine Has1.drew ?_ | with_reducible refine Has1.alloc ?_ _ | with_reducible refine Has1.set ?_ _ | with_reducible refine Has1.other ?_ ?_ _ | omega | (simp <;> omega))) hb6 (by first | omega | (simp <;> omega))
  have Lg_6 := g_6.lt
  have B6 : Below w.heap.size w w6 := Below.trans (by repeat' (first | with_reducible exact B5 | with_reducible exact Below.refl _ _ | with_reducible refine Below.drew ?_ | with_reducible refine Below.alloc ?_ ?_ _ | with_reducible refine bset ?_ ?_ _ | omega | (simp <;> omega))) (hb6.mono (by first | omega | (simp <;> omega)))
  have hz6 := B6.size
  clear hb6 g_5 Lg_5 B5
  go_wp2_with fail
  refine (shuffle_0 _).mono ?_
  rintro e w7 ⟨b7, hbb7, rfl, l_7, hb7⟩
  have g_7 : Has w7 (w2.heap.size) #[.int .u64 11400714819323198485] 24 := Has.below (by repeat' (first | with_reducible exact g_6 | ((with_reducible refine Has.newAt ?_); (first | omega | (simp; done) | (simp; omega))) | with_reducible refine Has.drew ?_ | with_reducible refine Has.alloc ?_ _ | with_reducible refine Has.one ?_ _ | with_reducible refine Has.other ?_ ?_ _ | with_reducible exact Has1.of g_6 | ((with_reducible refine Has1.newAt ?_); (first | omega | (simp; done) | (simp; omega))) | with_reducible refine Has1.drew ?_ | with_reducible refine Has1.alloc ?_ _ | with_reducible refine Has1.set ?_ _ | with_reducible refine Has1.other ?_ ?_ _ | omega | (simp <;> omega))) hb7 (by first | omega | (simp <;> omega))
  have Lg_7 := g_7.lt
  have B7 : Below w.heap.size w w7 := Below.trans (by repeat' (first | with_reducible exact B6 | with_reducible exact Below.refl _ _ | with_reducible refine Below.drew ?_ | with_reducible refine Below.alloc ?_ ?_ _ | with_reducible refine bset ?_ ?_ _ | omega | (simp <;> omega))) (hb7.mono (by first | omega | (simp <;> omega)))
  have hz7 := B7.size
  clear hb7 g_6 Lg_6 B6
  have Ll_7 := l_7.lt
  go_wp2_with fail
  refine (new_any _ _).mono ?_
  rintro e w8 ⟨rfl, hb8⟩
  have g_8 : Has w8 (w2.heap.size) #[.int .u64 11400714819323198485] 24 := Has.below (by repeat' (first | with_reducible exact g_7 | ((with_reducible refine Has.newAt ?_); (first | omega | (simp; done) | (simp; omega))) | with_reducible refine Has.drew ?_ | with_reducible refine Has.alloc ?_ _ | with_reducible refine Has.one ?_ _ | with_reducible refine Has.other ?_ ?_ _ | with_reducible exact Has1.of g_7 | ((with_reducible refine Has1.newAt ?_); (first | omega | (simp; done) | (simp; omega))) | with_reducible refine Has1.drew ?_ | with_reducible refine Has1.alloc ?_ _ | with_reducible refine Has1.set ?_ _ | with_reducible refine Has1.other ?_ ?_ _ | omega | (simp <;> omega))) hb8 (by first | omega | (simp <;> omega))
  have Lg_8 := g_8.lt
  have l_8 : Has w8 (b7) (ints [2, 0, 1]) 3 := Has.below (by repeat' (first | with_reducible exact l_7 | ((with_reducible refine Has.newAt ?_); (first | omega | (simp; done) | (simp; omega))) | with_reducible refine Has.drew ?_ | with_reducible refine Has.alloc ?_ _ | with_reducible refine Has.one ?_ _ | with_reducible refine Has.other ?_ ?_ _ | with_reducible exact Has1.of l_7 | ((with_reducible refine Has1.newAt ?_); (first | omega | (simp; done) | (simp; omega))) | with_reducible refine Has1.drew ?_ | with_reducible refine Has1.alloc ?_ _ | with_reducible refine Has1.set ?_ _ | with_reducible refine Has1.other ?_ ?_ _ | omega | (simp <;> omega))) hb8 (by first | omega | (simp <;> omega))
  have Ll_8 := l_8.lt
  have B8 : Below w.heap.size w w8 := Below.trans (by repeat' (first | with_reducible exact B7 | with_reducible exact Below.refl _ _ | with_reducible refine Below.drew ?_ | with_reducible refine Below.alloc ?_ ?_ _ | with_reducible refine bset ?_ ?_ _ | omega | (simp <;> omega))) (hb8.mono (by first | omega | (simp <;> omega)))
  have hz8 := B8.size
  clear hb8 g_7 l_7 Lg_7 Ll_7 B7
  go_wp2_with fail
  refine (pick_0 _ _ (Row.ofHas (l := [1, 0, 2]) (T := 3) (Has.newAt (by simp)))).mono ?_
  rintro e w9 ⟨rfl, hb9⟩
  have g_9 : Has w9 (w2.heap.size) #[.int .u64 11400714819323198485] 24 := Has.below (by repeat' (first | with_reducible exact g_8 | ((with_reducible refine Has.newAt ?_); (first | omega | (simp; done) | (simp; omega))) | with_reducible refine Has.drew ?_ | with_reducible refine Has.alloc ?_ _ | with_reducible refine Has.one ?_ _ | with_reducible refine Has.other ?_ ?_ _ | with_reducible exact Has1.of g_8 | ((with_reducible refine Has1.newAt ?_); (first | omega | (simp; done) | (simp; omega))) | with_reducible refine Has1.drew ?_ | with_reducible refine Has1.alloc ?_ _ | with_reducible refine Has1.set ?_ _ | with_reducible refine Has1.other ?_ ?_ _ | omega | (simp <;> omega))) hb9 (by first | omega | (simp <;> omega))
  have Lg_9 := g_9.lt
  have l_9 : Has w9 (b7) (ints [2, 0, 1]) 3 := Has.below (by repeat' (first | with_reducible exact l_8 | ((with_reducible refine Has.newAt ?_); (first | omega | (simp; done) | (simp; omega))) | with_reducible refine Has.drew ?_ | with_reducible refine Has.alloc ?_ _ | with_reducible refine Has.one ?_ _ | with_reducible refine Has.other ?_ ?_ _ | with_reducible exact Has1.of l_8 | ((with_reducible refine Has1.newAt ?_); (first | omega | (simp; done) | (simp; omega))) | with_reducible refine Has1.drew ?_ | with_reducible refine Has1.alloc ?_ _ | with_reducible refine Has1.set ?_ _ | with_reducible refine Has1.other ?_ ?_ _ | omega | (simp <;> omega))) hb9 (by first | omega | (simp <;> omega))
  have Ll_9 := l_9.lt
  have B9 : Below w.heap.size w w9 := Below.trans (by repeat' (first | with_reducible exact B8 | with_reducible exact Below.refl _ _ | with_reducible refine Below.drew ?_ | with_reducible refine Below.alloc ?_ ?_ _ | with_reducible refine bset ?_ ?_ _ | omega | (simp <;> omega))) (hb9.mono (by first | omega | (simp <;> omega)))
  have hz9 := B9.size
  clear hb9 g_8 l_8 Lg_8 Ll_8 B8
  have cg_9 : w9.cell? ⟨w2.heap.size, 0, none⟩ = some (.int .u64 11400714819323198485) := g_9.cell (j := 0) rfl
  have fg_9 : w9.frozen? ⟨w2.heap.size, 0, none⟩ = false := g_9.free 0
  clear hbb7
  go_wp2_with fail
  refine (ints_any _ _ 3 3 3 [2, 0, 1] _ (by omega) rfl (Row.ofHas (l := [2, 0, 1]) (T := 3) (by repeat' (first | with_reducible exact l_9 | ((with_reducible refine Has.newAt ?_); (first | omega | (simp; done) | (simp; omega))) | with_reducible refine Has.drew ?_ | with_reducible refine Has.alloc ?_ _ | with_reducible refine Has.one ?_ _ | with_reducible refine Has.other ?_ ?_ _ | with_reducible exact Has1.of l_9 | ((with_reducible refine Has1.newAt ?_); (first | omega | (simp; done) | (simp; omega))) | with_reducible refine Has1.drew ?_ | with_reducible refine Has1.alloc ?_ _ | with_reducible refine Has1.set ?_ _ | with_reducible refine Has1.other ?_ ?_ _ | omega | (simp <;> omega)))) (Row.ofHas (l := [2, 0, 1]) (T := 3) (show Has _ _ #[.int .i64 2, .int .i64 0, .int .i64 1] 3 from (by repeat' (first | with_reducible exact rfl | ((with_reducible refine Has.newAt ?_); (first | omega | (simp; done) | (simp; omega))) | with_reducible refine Has.drew ?_ | with_reducible refine Has.alloc ?_ _ | with_reducible refine Has.one ?_ _ | with_reducible refine Has.other ?_ ?_ _ | with_reducible exact Has1.of rfl | ((with_reducible refine Has1.newAt ?_); (first | omega | (simp; done) | (simp; omega))) | with_reducible refine Has1.drew ?_ | with_reducible refine Has1.alloc ?_ _ | with_reducible refine Has1.set ?_ _ | with_reducible refine Has1.other ?_ ?_ _ | omega | (simp <;> omega)))))).mono ?_
  rintro e w10 ⟨rfl, hb10⟩
  have g_10 : Has w10 (w2.heap.size) #[.int .u64 11400714819323198485] 24 := Has.below (by repeat' (first | with_reducible exact g_9 | ((with_reducible refine Has.newAt ?_); (first | omega | (simp; done) | (simp; omega))) | with_reducible refine Has.drew ?_ | with_reducible refine Has.alloc ?_ _ | with_reducible refine Has.one ?_ _ | with_reducible refine Has.other ?_ ?_ _ | with_reducible exact Has1.of g_9 | ((with_reducible refine Has1.newAt ?_); (first | omega | (simp; done) | (simp; omega))) | with_reducible refine Has1.drew ?_ | with_reducible refine Has1.alloc ?_ _ | with_reducible refine Has1.set ?_ _ | with_reducible refine Has1.other ?_ ?_ _ | omega | (simp <;> omega))) hb10 (by first | omega | (simp <;> omega))
  have Lg_10 := g_10.lt
  have l_10 : Has w10 (b7) (ints [2, 0, 1]) 3 := Has.below (by repeat' (first | with_reducible exact l_9 | ((with_reducible refine Has.newAt ?_); (first | omega | (simp; done) | (simp; omega))) | with_reducible refine Has.drew ?_ | with_reducible refine Has.alloc ?_ _ | with_reducible refine Has.one ?_ _ | with_reducible refine Has.other ?_ ?_ _ | with_reducible exact Has1.of l_9 | ((with_reducible refine Has1.newAt ?_); (first | omega | (simp; done) | (simp; omega))) | with_reducible refine Has1.drew ?_ | with_reducible refine Has1.alloc ?_ _ | with_reducible refine Has1.set ?_ _ | with_reducible refine Has1.other ?_ ?_ _ | omega | (simp <;> omega))) hb10 (by first | omega | (simp <;> omega))
  have Ll_10 := l_10.lt
  have B10 : Below w.heap.size w w10 := Below.trans (by repeat' (first | with_reducible exact B9 | with_reducible exact Below.refl _ _ | with_reducible refine Below.drew ?_ | with_reducible refine Below.alloc ?_ ?_ _ | with_reducible refine bset ?_ ?_ _ | omega | (simp <;> omega))) (hb10.mono (by first | omega | (simp <;> omega)))
  have hz10 := B10.size
  clear hb10 g_9 l_9 Lg_9 Ll_9 B9
  go_wp2_with fail
  refine (seed_a _).mono ?_
  rintro e w11 ⟨rfl, rfl⟩
  go_wp2_with fail
  go_ret
  exact ⟨rfl, (by repeat' (first | with_reducible exact B10 | with_reducible exact Below.refl _ _ | with_reducible refine Below.drew ?_ | with_reducible refine Below.alloc ?_ ?_ _ | with_reducible refine bset ?_ ?_ _ | omega | (simp <;> omega)))⟩
end Go.Proofs.Ytaekpkedjeefcaa
