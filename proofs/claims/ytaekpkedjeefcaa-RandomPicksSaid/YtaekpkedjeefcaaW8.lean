/-
  The walks of the statements RandomNexts, RandomSplits, RandomSeeds, RandomShuffles and RandomPicks.
-/
import Derived.Test.YtaekpkedjeefcaaRows
import Derived.Test.YtaekpkedjeefcaaPlain
import Derived.Test.YtaekpkedjeefcaaHeap
import Derived.Test.YtaekpkedjeefcaaW1
import Derived.Test.YtaekpkedjeefcaaW2
import Derived.Test.YtaekpkedjeefcaaW5
import Derived.Test.YtaekpkedjeefcaaW6
import Derived.Test.YtaekpkedjeefcaaW7
import Derived.WalkKit
import Derived.ProofKit
import Derived.OpenShut
import Derived.Outline
namespace Go.Proofs.Ytaekpkedjeefcaa
open Go.ChangeShapes Go.WideShapes Go.ChangeAt Go.RowKit

set_option maxHeartbeats 1000000 in
theorem nexts_any (s n : Int) (w : World) (hm : n ≤ 9223372036854775807) :
    Calls Try.prog 3 #[.int .u64 s, .int .i64 n] w fun e w' => e = .returned (.bool true) ∧ Below w.heap.size w w' := by
  go_enter Try.func3, Try.ntmps3
  go_wp2_with fail
  refine (new_any _ _).mono ?_
  rintro e w1 ⟨rfl, hb1⟩
  have B1 : Below w.heap.size w w1 := Below.trans (by repeat' (first | with_reducible exact rfl | with_reducible exact Below.refl _ _ | with_reducible refine Below.drew ?_ | with_reducible refine Below.alloc ?_ ?_ _ | with_reducible refine bset ?_ ?_ _ | omega | (simp <;> omega))) (hb1.mono (by first | omega | (simp <;> omega)))
  have hz1 := B1.size
  clear hb1
  go_wp2_with fail
  refine (next_any _ _).mono ?_
  rintro e w2 ⟨rfl, hb2⟩
  have g_2 : Has w2 (w1.heap.size) #[.int .u64 s] 24 := Has.below (by repeat' (first | with_reducible exact rfl | ((with_reducible refine Has.newAt ?_); (first | omega | (simp; done) | (simp; omega))) | with_reducible refine Has.drew ?_ | with_reducible refine Has.alloc ?_ _ | with_reducible refine Has.one ?_ _ | with_reducible refine Has.other ?_ ?_ _ | with_reducible exact Has1.of rfl | ((with_reducible refine Has1.newAt ?_); (first | omega | (simp; done) | (simp; omega))) | with_reducible refine Has1.drew ?_ | with_reducible refine Has1.alloc ?_ _ | with_reducible refine Has1.set ?_ _ | with_reducible refine Has1.other ?_ ?_ _ | omega | (simp <;> omega))) hb2 (by first | omega | (simp <;> omega))
  have Lg_2 := g_2.lt
  have B2 : Below w.heap.size w w2 := Below.trans (by repeat' (first | with_reducible exact B1 | with_reducible exact Below.refl _ _ | with_reducible refine Below.drew ?_ | with_reducible refine Below.alloc ?_ ?_ _ | with_reducible refine bset ?_ ?_ _ | omega | (simp <;> omega))) (hb2.mono (by first | omega | (simp <;> omega)))
  have hz2 := B2.size
  clear hb2 B1
  have cg_2 : w2.cell? ⟨w1.heap.size, 0, none⟩ = some (.int .u64 s) := g_2.cell (j := 0) rfl
  have fg_2 : w2.frozen? ⟨w1.heap.size, 0, none⟩ = false := g_2.free 0
  go_wp2_with fail
  refine (rnext_any _ _).mono ?_
  rintro e w3 ⟨rfl, hb3⟩
  have g_3 : Has w3 (w1.heap.size) #[.int .u64 s] 24 := Has.below (by repeat' (first | with_reducible exact g_2 | ((with_reducible refine Has.newAt ?_); (first | omega | (simp; done) | (simp; omega))) | with_reducible refine Has.drew ?_ | with_reducible refine Has.alloc ?_ _ | with_reducible refine Has.one ?_ _ | with_reducible refine Has.other ?_ ?_ _ | with_reducible exact Has1.of g_2 | ((with_reducible refine Has1.newAt ?_); (first | omega | (simp; done) | (simp; omega))) | with_reducible refine Has1.drew ?_ | with_reducible refine Has1.alloc ?_ _ | with_reducible refine Has1.set ?_ _ | with_reducible refine Has1.other ?_ ?_ _ | omega | (simp <;> omega))) hb3 (by first | omega | (simp <;> omega))
  have Lg_3 := g_3.lt
  have a_3 : Has w3 (w2.heap.size) #[.int .u64 (nextS s)] 24 := Has.below (by repeat' (first | with_reducible exact rfl | ((with_reducible refine Has.newAt ?_); (first | omega | (simp; done) | (simp; omega))) | with_reducible refine Has.drew ?_ | with_reducible refine Has.alloc ?_ _ | with_reducible refine Has.one ?_ _ | with_reducible refine Has.other ?_ ?_ _ | with_reducible exact Has1.of rfl | ((with_reducible refine Has1.newAt ?_); (first | omega | (simp; done) | (simp; omega))) | with_reducible refine Has1.drew ?_ | with_reducible refine Has1.alloc ?_ _ | with_reducible refine Has1.set ?_ _ | with_reducible refine Has1.other ?_ ?_ _ | omega | (simp <;> omega))) hb3 (by first | omega | (simp <;> omega))
  have La_3 := a_3.lt
  have B3 : Below w.heap.size w w3 := Below.trans (by repeat' (first | with_reducible exact B2 | with_reducible exact Below.refl _ _ | with_reducible refine Below.drew ?_ | with_reducible refine Below.alloc ?_ ?_ _ | with_reducible refine bset ?_ ?_ _ | omega | (simp <;> omega))) (hb3.mono (by first | omega | (simp <;> omega)))
  have hz3 := B3.size
  clear hb3 g_2 Lg_2 B2
  have cg_3 : w3.cell? ⟨w1.heap.size, 0, none⟩ = some (.int .u64 s) := g_3.cell (j := 0) rfl
  have fg_3 : w3.frozen? ⟨w1.heap.size, 0, none⟩ = false := g_3.free 0
  go_wp2_with fail
  refine (below_any _ _ _ hm).mono ?_
  rintro e w4 ⟨rfl, hb4⟩
  have g_4 : Has w4 (w1.heap.size) #[.int .u64 s] 24 := Has.below (by repeat' (first | with_reducible exact g_3 | ((with_reducible refine Has.newAt ?_); (first | omega | (simp; done) | (simp; omega))) | with_reducible refine Has.drew ?_ | with_reducible refine Has.alloc ?_ _ | with_reducible refine Has.one ?_ _ | with_reducible refine Has.other ?_ ?_ _ | with_reducible exact Has1.of g_3 | ((with_reducible refine Has1.newAt ?_); (first | omega | (simp; done) | (simp; omega))) | with_reducible refine Has1.drew ?_ | with_reducible refine Has1.alloc ?_ _ | with_reducible refine Has1.set ?_ _ | with_reducible refine Has1.other ?_ ?_ _ | omega | (simp <;> omega))) hb4 (by first | omega | (simp <;> omega))
  have Lg_4 := g_4.lt
  have a_4 : Has w4 (w2.heap.size) #[.int .u64 (nextS s)] 24 := Has.below (by repeat' (first | with_reducible exact a_3 | ((with_reducible refine Has.newAt ?_); (first | omega | (simp; done) | (simp; omega))) | with_reducible refine Has.drew ?_ | with_reducible refine Has.alloc ?_ _ | with_reducible refine Has.one ?_ _ | with_reducible refine Has.other ?_ ?_ _ | with_reducible exact Has1.of a_3 | ((with_reducible refine Has1.newAt ?_); (first | omega | (simp; done) | (simp; omega))) | with_reducible refine Has1.drew ?_ | with_reducible refine Has1.alloc ?_ _ | with_reducible refine Has1.set ?_ _ | with_reducible refine Has1.other ?_ ?_ _ | omega | (simp <;> omega))) hb4 (by first | omega | (simp <;> omega))
  have La_4 := a_4.lt
  have b_4 : Has w4 (w3.heap.size) #[.int .u64 (nextS s)] 24 := Has.below (by repeat' (first | with_reducible exact rfl | ((with_reducible refine Has.newAt ?_); (first | omega | (simp; done) | (simp; omega))) | with_reducible refine Has.drew ?_ | with_reducible refine Has.alloc ?_ _ | with_reducible refine Has.one ?_ _ | with_reducible refine Has.other ?_ ?_ _ | with_reducible exact Has1.of rfl | ((with_reducible refine Has1.newAt ?_); (first | omega | (simp; done) | (simp; omega))) | with_reducible refine Has1.drew ?_ | with_reducible refine Has1.alloc ?_ _ | with_reducible refine Has1.set ?_ _ | with_reducible refine Has1.other ?_ ?_ _ | omega | (simp <;> omega))) hb4 (by first | omega | (simp <;> omega))
  have Lb_4 := b_4.lt
  have B4 : Below w.heap.size w w4 := Below.trans (by repeat' (first | with_reducible exact B3 | with_reducible exact Below.refl _ _ | with_reducible refine Below.drew ?_ | with_reducible refine Below.alloc ?_ ?_ _ | with_reducible refine bset ?_ ?_ _ | omega | (simp <;> omega))) (hb4.mono (by first | omega | (simp <;> omega)))
  have hz4 := B4.size
  clear hb4 g_3 a_3 Lg_3 La_3 B3
  have cg_4 : w4.cell? ⟨w1.heap.size, 0, none⟩ = some (.int .u64 s) := g_4.cell (j := 0) rfl
  have fg_4 : w4.frozen? ⟨w1.heap.size, 0, none⟩ = false := g_4.free 0
  go_wp2_with fail
  refine (rbelow_any _ _ _ hm).mono ?_
  rintro e w5 ⟨rfl, hb5⟩
  have g_5 : Has w5 (w1.heap.size) #[.int .u64 s] 24 := Has.below (by repeat' (first | with_reducible exact g_4 | ((with_reducible refine Has.newAt ?_); (first | omega | (simp; done) | (simp; omega))) | with_reducible refine Has.drew ?_ | with_reducible refine Has.alloc ?_ _ | with_reducible refine Has.one ?_ _ | with_reducible refine Has.other ?_ ?_ _ | with_reducible exact Has1.of g_4 | ((with_reducible refine Has1.newAt ?_); (first | omega | (simp; done) | (simp; omega))) | with_reducible refine Has1.drew ?_ | with_reducible refine Has1.alloc ?_ _ | with_reducible refine Has1.set ?_ _ | with_reducible refine Has1.other ?_ ?_ _ | omega | (simp <;> omega))) hb5 (by first | omega | (simp <;> omega))
  have Lg_5 := g_5.lt
  have a_5 : Has w5 (w2.heap.size) #[.int .u64 (nextS s)] 24 := Has.below (by repeat' (first | with_reducible exact a_4 | ((with_reducible refine Has.newAt ?_); (first | omega | (simp; done) | (simp; omega))) | with_reducible refine Has.drew ?_ | with_reducible refine Has.alloc ?_ _ | with_reducible refine Has.one ?_ _ | with_reducible refine Has.other ?_ ?_ _ | with_reducible exact Has1.of a_4 | ((with_reducible refine Has1.newAt ?_); (first | omega | (simp; done) | (simp; omega))) | with_reducible refine Has1.drew ?_ | with_reducible refine Has1.alloc ?_ _ | with_reducible refine Has1.set ?_ _ | with_reducible refine Has1.other ?_ ?_ _ | omega | (simp <;> omega))) hb5 (by first | omega | (simp <;> omega))
  have La_5 := a_5.lt
  have b_5 : Has w5 (w3.heap.size) #[.int .u64 (nextS s)] 24 := Has.below (by repeat' (first | with_reducible exact b_4 | ((with_reducible refine Has.newAt ?_); (first | omega | (simp; done) | (simp; omega))) | with_reducible refine Has.drew ?_ | with_reducible refine Has.alloc ?_ _ | with_reducible refine Has.one ?_ _ | with_reducible refine Has.other ?_ ?_ _ | with_reducible exact Has1.of b_4 | ((with_reducible refine Has1.newAt ?_); (first | omega | (simp; done) | (simp; omega))) | with_reducible refine Has1.drew ?_ | with_reducible refine Has1.alloc ?_ _ | with_reducible refine Has1.set ?_ _ | with_reducible refine Has1.other ?_ ?_ _ | omega | (simp <;> omega))) hb5 (by first | omega | (simp <;> omega))
  have Lb_5 := b_5.lt
  have c_5 : Has w5 (w4.heap.size) #[.int .u64 (belowS s n)] 24 := Has.below (by repeat' (first | with_reducible exact rfl | ((with_reducible refine Has.newAt ?_); (first | omega | (simp; done) | (simp; omega))) | with_reducible refine Has.drew ?_ | with_reducible refine Has.alloc ?_ _ | with_reducible refine Has.one ?_ _ | with_reducible refine Has.other ?_ ?_ _ | with_reducible exact Has1.of rfl | ((with_reducible refine Has1.newAt ?_); (first | omega | (simp; done) | (simp; omega))) | with_reducible refine Has1.drew ?_ | with_reducible refine Has1.alloc ?_ _ | with_reducible refine Has1.set ?_ _ | with_reducible refine Has1.other ?_ ?_ _ | omega | (simp <;> omega))) hb5 (by first | omega | (simp <;> omega))
  have Lc_5 := c_5.lt
  have B5 : Below w.heap.size w w5 := Below.trans (by repeat' (first | with_reducible exact B4 | with_reducible exact Below.refl _ _ | with_reducible refine Below.drew ?_ | with_reducible refine Below.alloc ?_ ?_ _ | with_reducible refine bset ?_ ?_ _ | omega | (simp <;> omega))) (hb5.mono (by first | omega | (simp <;> omega)))
  have hz5 := B5.size
  clear hb5 g_4 a_4 b_4 Lg_4 La_4 Lb_4 B4
  have cg_5 : w5.cell? ⟨w1.heap.size, 0, none⟩ = some (.int .u64 s) := g_5.cell (j := 0) rfl
  have fg_5 : w5.frozen? ⟨w1.heap.size, 0, none⟩ = false := g_5.free 0
  have ca_5 : w5.cell? ⟨w2.heap.size, 0, none⟩ = some (.int .u64 (nextS s)) := a_5.cell (j := 0) rfl
  have fa_5 : w5.frozen? ⟨w2.heap.size, 0, none⟩ = false := a_5.free 0
  have cb_5 : w5.cell? ⟨w3.heap.size, 0, none⟩ = some (.int .u64 (nextS s)) := b_5.cell (j := 0) rfl
  have fb_5 : w5.frozen? ⟨w3.heap.size, 0, none⟩ = false := b_5.free 0
  have cc_5 : w5.cell? ⟨w4.heap.size, 0, none⟩ = some (.int .u64 (belowS s n)) := c_5.cell (j := 0) rfl
  have fc_5 : w5.frozen? ⟨w4.heap.size, 0, none⟩ = false := c_5.free 0
  go_wp2_with fail
  refine (awake_any _).mono ?_
  rintro e w6 ⟨rfl, hb6⟩
  have g_6 : Has w6 (w1.heap.size) #[.int .u64 s] 24 := Has.below (by repeat' (first | with_reducible exact g_5 | ((with_reducible refine Has.newAt ?_); (first | omega | (simp; done) | (simp; omega))) | with_reducible refine Has.drew ?_ | with_reducible refine Has.alloc ?_ _ | with_reducible refine Has.one ?_ _ | with_reducible refine Has.other ?_ ?_ _ | with_reducible exact Has1.of g_5 | ((with_reducible refine Has1.newAt ?_); (first | omega | (simp; done) | (simp; omega))) | with_reducible refine Has1.drew ?_ | with_reducible refine Has1.alloc ?_ _ | with_reducible refine Has1.set ?_ _ | with_reducible refine Has1.other ?_ ?_ _ | omega | (simp <;> omega))) hb6 (by first | omega | (simp <;> omega))
  have Lg_6 := g_6.lt
  have a_6 : Has w6 (w2.heap.size) #[.int .u64 (nextS s)] 24 := Has.below (by repeat' (first | with_reducible exact a_5 | ((with_reducible refine Has.newAt ?_); (first | omega | (simp; done) | (simp; omega))) | with_reducible refine Has.drew ?_ | with_reducible refine Has.alloc ?_ _ | with_reducible refine Has.one ?_ _ | with_reducible refine Has.other ?_ ?_ _ | with_reducible exact Has1.of a_5 | ((with_reducible refine Has1.newAt ?_); (first | omega | (simp; done) | (simp; omega))) | with_reducible refine Has1.drew ?_ | with_reducible refine Has1.alloc ?_ _ | with_reducible refine Has1.set ?_ _ | with_reducible refine Has1.other ?_ ?_ _ | omega | (simp <;> omega))) hb6 (by first | omega | (simp <;> omega))
  have La_6 := a_6.lt
  have b_6 : Has w6 (w3.heap.size) #[.int .u64 (nextS s)] 24 := Has.below (by repeat' (first | with_reducible exact b_5 | ((with_reducible refine Has.newAt ?_); (first | omega | (simp; done) | (simp; omega))) | with_reducible refine Has.drew ?_ | with_reducible refine Has.alloc ?_ _ | with_reducible refine Has.one ?_ _ | with_reducible refine Has.other ?_ ?_ _ | with_reducible exact Has1.of b_5 | ((with_reducible refine Has1.newAt ?_); (first | omega | (simp; done) | (simp; omega))) | with_reducible refine Has1.drew ?_ | with_reducible refine Has1.alloc ?_ _ | with_reducible refine Has1.set ?_ _ | with_reducible refine Has1.other ?_ ?_ _ | omega | (simp <;> omega))) hb6 (by first | omega | (simp <;> omega))
  have Lb_6 := b_6.lt
  have c_6 : Has w6 (w4.heap.size) #[.int .u64 (belowS s n)] 24 := Has.below (by repeat' (first | with_reducible exact c_5 | ((with_reducible refine Has.newAt ?_); (first | omega | (simp; done) | (simp; omega))) | with_reducible refine Has.drew ?_ | with_reducible refine Has.alloc ?_ _ | with_reducible refine Has.one ?_ _ | with_reducible refine Has.other ?_ ?_ _ | with_reducible exact Has1.of c_5 | ((with_reducible refine Has1.newAt ?_); (first | omega | (simp; done) | (simp; omega))) | with_reducible refine Has1.drew ?_ | with_reducible refine Has1.alloc ?_ _ | with_reducible refine Has1.set ?_ _ | with_reducible refine Has1.other ?_ ?_ _ | omega | (simp <;> omega))) hb6 (by first | omega | (simp <;> omega))
  have Lc_6 := c_6.lt
  have B6 : Below w.heap.size w w6 := Below.trans (by repeat' (first | with_reducible exact B5 | with_reducible exact Below.refl _ _ | with_reducible refine Below.drew ?_ | with_reducible refine Below.alloc ?_ ?_ _ | with_reducible refine bset ?_ ?_ _ | omega | (simp <;> omega))) (hb6.mono (by first | omega | (simp <;> omega)))
  have hz6 := B6.size
  clear hb6 g_5 a_5 b_5 c_5 Lg_5 La_5 Lb_5 Lc_5 B5
  go_wp2_with fail
  go_ret
  exact ⟨rfl, (by repeat' (first | with_reducible exact B6 | with_reducible exact Below.refl _ _ | with_reducible refine Below.drew ?_ | with_reducible refine Below.alloc ?_ ?_ _ | with_reducible refine bset ?_ ?_ _ | omega | (simp <;> omega)))⟩

set_option maxHeartbeats 1000000 in
theorem splits_any (s : Int) (w : World) :
    Calls Try.prog 10 #[.int .u64 s] w fun e w' => e = .returned (.bool true) ∧ Below w.heap.size w w' := by
  go_enter Try.func10, Try.ntmps10
  go_wp2_with fail
  refine (new_any _ _).mono ?_
  rintro e w1 ⟨rfl, hb1⟩
  have B1 : Below w.heap.size w w1 := Below.trans (by repeat' (first | with_reducible exact rfl | with_reducible exact Below.refl _ _ | with_reducible refine Below.drew ?_ | with_reducible refine Below.alloc ?_ ?_ _ | with_reducible refine bset ?_ ?_ _ | omega | (simp <;> omega))) (hb1.mono (by first | omega | (simp <;> omega)))
  have hz1 := B1.size
  clear hb1
  go_wp2_with fail
  refine (split_any _ _).mono ?_
  rintro e w2 ⟨rfl, hb2⟩
  have g_2 : Has w2 (w1.heap.size) #[.int .u64 s] 24 := Has.below (by repeat' (first | with_reducible exact rfl | ((with_reducible refine Has.newAt ?_); (first | omega | (simp; done) | (simp; omega))) | with_reducible refine Has.drew ?_ | with_reducible refine Has.alloc ?_ _ | with_reducible refine Has.one ?_ _ | with_reducible refine Has.other ?_ ?_ _ | with_reducible exact Has1.of rfl | ((with_reducible refine Has1.newAt ?_); (first | omega | (simp; done) | (simp; omega))) | with_reducible refine Has1.drew ?_ | with_reducible refine Has1.alloc ?_ _ | with_reducible refine Has1.set ?_ _ | with_reducible refine Has1.other ?_ ?_ _ | omega | (simp <;> omega))) hb2 (by first | omega | (simp <;> omega))
  have Lg_2 := g_2.lt
  have B2 : Below w.heap.size w w2 := Below.trans (by repeat' (first | with_reducible exact B1 | with_reducible exact Below.refl _ _ | with_reducible refine Below.drew ?_ | with_reducible refine Below.alloc ?_ ?_ _ | with_reducible refine bset ?_ ?_ _ | omega | (simp <;> omega))) (hb2.mono (by first | omega | (simp <;> omega)))
  have hz2 := B2.size
  clear hb2 B1
  have cg_2 : w2.cell? ⟨w1.heap.size, 0, none⟩ = some (.int .u64 s) := g_2.cell (j := 0) rfl
  have fg_2 : w2.frozen? ⟨w1.heap.size, 0, none⟩ = false := g_2.free 0
  go_wp2_with fail
  refine (next_any _ _).mono ?_
  rintro e w3 ⟨rfl, hb3⟩
  have g_3 : Has w3 (w1.heap.size) #[.int .u64 s] 24 := Has.below (by repeat' (first | with_reducible exact g_2 | ((with_reducible refine Has.newAt ?_); (first | omega | (simp; done) | (simp; omega))) | with_reducible refine Has.drew ?_ | with_reducible refine Has.alloc ?_ _ | with_reducible refine Has.one ?_ _ | with_reducible refine Has.other ?_ ?_ _ | with_reducible exact Has1.of g_2 | ((with_reducible refine Has1.newAt ?_); (first | omega | (simp; done) | (simp; omega))) | with_reducible refine Has1.drew ?_ | with_reducible refine Has1.alloc ?_ _ | with_reducible refine Has1.set ?_ _ | with_reducible refine Has1.other ?_ ?_ _ | omega | (simp <;> omega))) hb3 (by first | omega | (simp <;> omega))
  have Lg_3 := g_3.lt
  have a_3 : Has w3 (w2.heap.size) #[.int .u64 (nextX s)] 24 := Has.below (by repeat' (first | with_reducible exact rfl | ((with_reducible refine Has.newAt ?_); (first | omega | (simp; done) | (simp; omega))) | with_reducible refine Has.drew ?_ | with_reducible refine Has.alloc ?_ _ | with_reducible refine Has.one ?_ _ | with_reducible refine Has.other ?_ ?_ _ | with_reducible exact Has1.of rfl | ((with_reducible refine Has1.newAt ?_); (first | omega | (simp; done) | (simp; omega))) | with_reducible refine Has1.drew ?_ | with_reducible refine Has1.alloc ?_ _ | with_reducible refine Has1.set ?_ _ | with_reducible refine Has1.other ?_ ?_ _ | omega | (simp <;> omega))) hb3 (by first | omega | (simp <;> omega))
  have La_3 := a_3.lt
  have b_3 : Has w3 (w2.heap.size + 1) #[.int .u64 (nextX (nextS s))] 24 := Has.below (by repeat' (first | with_reducible exact rfl | ((with_reducible refine Has.newAt ?_); (first | omega | (simp; done) | (simp; omega))) | with_reducible refine Has.drew ?_ | with_reducible refine Has.alloc ?_ _ | with_reducible refine Has.one ?_ _ | with_reducible refine Has.other ?_ ?_ _ | with_reducible exact Has1.of rfl | ((with_reducible refine Has1.newAt ?_); (first | omega | (simp; done) | (simp; omega))) | with_reducible refine Has1.drew ?_ | with_reducible refine Has1.alloc ?_ _ | with_reducible refine Has1.set ?_ _ | with_reducible refine Has1.other ?_ ?_ _ | omega | (simp <;> omega))) hb3 (by first | omega | (simp <;> omega))
  have Lb_3 := b_3.lt
  have B3 : Below w.heap.size w w3 := Below.trans (by repeat' (first | with_reducible exact B2 | with_reducible exact Below.refl _ _ | with_reducible refine Below.drew ?_ | with_reducible refine Below.alloc ?_ ?_ _ | with_reducible refine bset ?_ ?_ _ | omega | (simp <;> omega))) (hb3.mono (by first | omega | (simp <;> omega)))
  have hz3 := B3.size
  clear hb3 g_2 Lg_2 B2
  go_wp2_with fail
  refine (next_any _ _).mono ?_
  rintro e w4 ⟨rfl, hb4⟩
  have g_4 : Has w4 (w1.heap.size) #[.int .u64 s] 24 := Has.below (by repeat' (first | with_reducible exact g_3 | ((with_reducible refine Has.newAt ?_); (first | omega | (simp; done) | (simp; omega))) | with_reducible refine Has.drew ?_ | with_reducible refine Has.alloc ?_ _ | with_reducible refine Has.one ?_ _ | with_reducible refine Has.other ?_ ?_ _ | with_reducible exact Has1.of g_3 | ((with_reducible refine Has1.newAt ?_); (first | omega | (simp; done) | (simp; omega))) | with_reducible refine Has1.drew ?_ | with_reducible refine Has1.alloc ?_ _ | with_reducible refine Has1.set ?_ _ | with_reducible refine Has1.other ?_ ?_ _ | omega | (simp <;> omega))) hb4 (by first | omega | (simp <;> omega))
  have Lg_4 := g_4.lt
  have a_4 : Has w4 (w2.heap.size) #[.int .u64 (nextX s)] 24 := Has.below (by repeat' (first | with_reducible exact a_3 | ((with_reducible refine Has.newAt ?_); (first | omega | (simp; done) | (simp; omega))) | with_reducible refine Has.drew ?_ | with_reducible refine Has.alloc ?_ _ | with_reducible refine Has.one ?_ _ | with_reducible refine Has.other ?_ ?_ _ | with_reducible exact Has1.of a_3 | ((with_reducible refine Has1.newAt ?_); (first | omega | (simp; done) | (simp; omega))) | with_reducible refine Has1.drew ?_ | with_reducible refine Has1.alloc ?_ _ | with_reducible refine Has1.set ?_ _ | with_reducible refine Has1.other ?_ ?_ _ | omega | (simp <;> omega))) hb4 (by first | omega | (simp <;> omega))
  have La_4 := a_4.lt
  have b_4 : Has w4 (w2.heap.size + 1) #[.int .u64 (nextX (nextS s))] 24 := Has.below (by repeat' (first | with_reducible exact b_3 | ((with_reducible refine Has.newAt ?_); (first | omega | (simp; done) | (simp; omega))) | with_reducible refine Has.drew ?_ | with_reducible refine Has.alloc ?_ _ | with_reducible refine Has.one ?_ _ | with_reducible refine Has.other ?_ ?_ _ | with_reducible exact Has1.of b_3 | ((with_reducible refine Has1.newAt ?_); (first | omega | (simp; done) | (simp; omega))) | with_reducible refine Has1.drew ?_ | with_reducible refine Has1.alloc ?_ _ | with_reducible refine Has1.set ?_ _ | with_reducible refine Has1.other ?_ ?_ _ | omega | (simp <;> omega))) hb4 (by first | omega | (simp <;> omega))
  have Lb_4 := b_4.lt
  have B4 : Below w.heap.size w w4 := Below.trans (by repeat' (first | with_reducible exact B3 | with_reducible exact Below.refl _ _ | with_reducible refine Below.drew ?_ | with_reducible refine Below.alloc ?_ ?_ _ | with_reducible refine bset ?_ ?_ _ | omega | (simp <;> omega))) (hb4.mono (by first | omega | (simp <;> omega)))
  have hz4 := B4.size
  clear hb4 g_3 a_3 b_3 Lg_3 La_3 Lb_3 B3
  have ca_4 : w4.cell? ⟨w2.heap.size, 0, none⟩ = some (.int .u64 (nextX s)) := a_4.cell (j := 0) rfl
  have fa_4 : w4.frozen? ⟨w2.heap.size, 0, none⟩ = false := a_4.free 0
  have cb_4 : w4.cell? ⟨w2.heap.size + 1, 0, none⟩ = some (.int .u64 (nextX (nextS s))) := b_4.cell (j := 0) rfl
  have fb_4 : w4.frozen? ⟨w2.heap.size + 1, 0, none⟩ = false := b_4.free 0
  go_wp2_with fail
  refine (awake_any _).mono ?_
  rintro e w5 ⟨rfl, hb5⟩
  have g_5 : Has w5 (w1.heap.size) #[.int .u64 s] 24 := Has.below (by repeat' (first | with_reducible exact g_4 | ((with_reducible refine Has.newAt ?_); (first | omega | (simp; done) | (simp; omega))) | with_reducible refine Has.drew ?_ | with_reducible refine Has.alloc ?_ _ | with_reducible refine Has.one ?_ _ | with_reducible refine Has.other ?_ ?_ _ | with_reducible exact Has1.of g_4 | ((with_reducible refine Has1.newAt ?_); (first | omega | (simp; done) | (simp; omega))) | with_reducible refine Has1.drew ?_ | with_reducible refine Has1.alloc ?_ _ | with_reducible refine Has1.set ?_ _ | with_reducible refine Has1.other ?_ ?_ _ | omega | (simp <;> omega))) hb5 (by first | omega | (simp <;> omega))
  have Lg_5 := g_5.lt
  have a_5 : Has w5 (w2.heap.size) #[.int .u64 (nextX s)] 24 := Has.below (by repeat' (first | with_reducible exact a_4 | ((with_reducible refine Has.newAt ?_); (first | omega | (simp; done) | (simp; omega))) | with_reducible refine Has.drew ?_ | with_reducible refine Has.alloc ?_ _ | with_reducible refine Has.one ?_ _ | with_reducible refine Has.other ?_ ?_ _ | with_reducible exact Has1.of a_4 | ((with_reducible refine Has1.newAt ?_); (first | omega | (simp; done) | (simp; omega))) | with_reducible refine Has1.drew ?_ | with_reducible refine Has1.alloc ?_ _ | with_reducible refine Has1.set ?_ _ | with_reducible refine Has1.other ?_ ?_ _ | omega | (simp <;> omega))) hb5 (by first | omega | (simp <;> omega))
  have La_5 := a_5.lt
  have b_5 : Has w5 (w2.heap.size + 1) #[.int .u64 (nextX (nextS s))] 24 := Has.below (by repeat' (first | with_reducible exact b_4 | ((with_reducible refine Has.newAt ?_); (first | omega | (simp; done) | (simp; omega))) | with_reducible refine Has.drew ?_ | with_reducible refine Has.alloc ?_ _ | with_reducible refine Has.one ?_ _ | with_reducible refine Has.other ?_ ?_ _ | with_reducible exact Has1.of b_4 | ((with_reducible refine Has1.newAt ?_); (first | omega | (simp; done) | (simp; omega))) | with_reducible refine Has1.drew ?_ | with_reducible refine Has1.alloc ?_ _ | with_reducible refine Has1.set ?_ _ | with_reducible refine Has1.other ?_ ?_ _ | omega | (simp <;> omega))) hb5 (by first | omega | (simp <;> omega))
  have Lb_5 := b_5.lt
  have B5 : Below w.heap.size w w5 := Below.trans (by repeat' (first | with_reducible exact B4 | with_reducible exact Below.refl _ _ | with_reducible refine Below.drew ?_ | with_reducible refine Below.alloc ?_ ?_ _ | with_reducible refine bset ?_ ?_ _ | omega | (simp <;> omega))) (hb5.mono (by first | omega | (simp <;> omega)))
  have hz5 := B5.size
  clear hb5 g_4 a_4 b_4 Lg_4 La_4 Lb_4 B4
  go_wp2_with fail
  go_ret
  exact ⟨rfl, (by repeat' (first | with_reducible exact B5 | with_reducible exact Below.refl _ _ | with_reducible refine Below.drew ?_ | with_reducible refine Below.alloc ?_ ?_ _ | with_reducible refine bset ?_ ?_ _ | omega | (simp <;> omega)))⟩

set_option maxHeartbeats 1000000 in
theorem seeds_any (s : ByteArray) (w : World) (hs : s.size ≤ maxLen) :
    Calls Try.prog 4 #[.string s] w fun e w' => e = .returned (.bool true) ∧ Below w.heap.size w w' := by
  have hs' : s.size ≤ 9223372036854775807 := by unfold maxLen at hs; omega
  by_cases h : 2000 < s.size
  · go_enter Try.func4, Try.ntmps4
    go_wp2_with fail
    refine (awake_any _).mono ?_
    rintro e w1 ⟨rfl, hb1⟩
    have B1 : Below w.heap.size w w1 := Below.trans (by repeat' (first | with_reducible exact rfl | with_reducible exact Below.refl _ _ | with_reducible refine Below.drew ?_ | with_reducible refine Below.alloc ?_ ?_ _ | with_reducible refine bset ?_ ?_ _ | omega | (simp <;> omega))) (hb1.mono (by first | omega | (simp <;> omega)))
    have hz1 := B1.size
    clear hb1
    go_wp2_with fail
    go_ret
    exact ⟨rfl, (by repeat' (first | with_reducible exact B1 | with_reducible exact Below.refl _ _ | with_reducible refine Below.drew ?_ | with_reducible refine Below.alloc ?_ ?_ _ | with_reducible refine bset ?_ ?_ _ | omega | (simp <;> omega)))⟩
  · go_enter Try.func4, Try.ntmps4
    go_wp2_with fail
    refine (seed_any s _ hs).mono ?_
    rintro e w1 ⟨rfl, rfl⟩
    go_wp2_with fail
    refine (rseed_any s _ hs).mono ?_
    rintro e w1 ⟨rfl, rfl⟩
    go_wp2_with fail
    refine (awake_any _).mono ?_
    rintro e w1 ⟨rfl, hb1⟩
    have B1 : Below w.heap.size w w1 := Below.trans (by repeat' (first | with_reducible exact rfl | with_reducible exact Below.refl _ _ | with_reducible refine Below.drew ?_ | with_reducible refine Below.alloc ?_ ?_ _ | with_reducible refine bset ?_ ?_ _ | omega | (simp <;> omega))) (hb1.mono (by first | omega | (simp <;> omega)))
    have hz1 := B1.size
    clear hb1
    go_wp2_with fail
    go_ret
    exact ⟨rfl, (by repeat' (first | with_reducible exact B1 | with_reducible exact Below.refl _ _ | with_reducible refine Below.drew ?_ | with_reducible refine Below.alloc ?_ ?_ _ | with_reducible refine bset ?_ ?_ _ | omega | (simp <;> omega)))⟩

set_option maxHeartbeats 1000000 in
theorem shuffles_any (s n : Int) (w : World) :
    Calls Try.prog 5 #[.int .u64 s, .int .i64 n] w fun e w' => e = .returned (.bool true) ∧ Below w.heap.size w w' := by
  have hcl := clampN_le n
  go_enter Try.func5, Try.ntmps5
  go_wp2_with fail
  refine (shuffle_any _ _ _).mono ?_
  rintro e w1 ⟨b1, hbb1, rfl, l_1, hb1⟩
  have B1 : Below w.heap.size w w1 := Below.trans (by repeat' (first | with_reducible exact rfl | with_reducible exact Below.refl _ _ | with_reducible refine Below.drew ?_ | with_reducible refine Below.alloc ?_ ?_ _ | with_reducible refine bset ?_ ?_ _ | omega | (simp <;> omega))) (hb1.mono (by first | omega | (simp <;> omega)))
  have hz1 := B1.size
  clear hb1
  have Ll_1 := l_1.lt
  clear hbb1
  go_wp2_with fail
  refine (rshuffle_any _ _ _).mono ?_
  rintro e w2 ⟨b2, hbb2, rfl, m_2, hb2⟩
  have l_2 : Has w2 (b1) (ints (shufL s n)) 3 := Has.below (by repeat' (first | with_reducible exact l_1 | ((with_reducible refine Has.newAt ?_); (first | omega | (simp; done) | (simp; omega))) | with_reducible refine Has.drew ?_ | with_reducible refine Has.alloc ?_ _ | with_reducible refine Has.one ?_ _ | with_reducible refine Has.other ?_ ?_ _ | with_reducible exact Has1.of l_1 | ((with_reducible refine Has1.newAt ?_); (first | omega | (simp; done) | (simp; omega))) | with_reducible refine Has1.drew ?_ | with_reducible refine Has1.alloc ?_ _ | with_reducible refine Has1.set ?_ _ | with_reducible refine Has1.other ?_ ?_ _ | omega | (simp <;> omega))) hb2 (by first | omega | (simp <;> omega))
  have Ll_2 := l_2.lt
  have a_2 : Has w2 (w1.heap.size) #[.int .u64 (shufS s n)] 24 := Has.below (by repeat' (first | with_reducible exact rfl | ((with_reducible refine Has.newAt ?_); (first | omega | (simp; done) | (simp; omega))) | with_reducible refine Has.drew ?_ | with_reducible refine Has.alloc ?_ _ | with_reducible refine Has.one ?_ _ | with_reducible refine Has.other ?_ ?_ _ | with_reducible exact Has1.of rfl | ((with_reducible refine Has1.newAt ?_); (first | omega | (simp; done) | (simp; omega))) | with_reducible refine Has1.drew ?_ | with_reducible refine Has1.alloc ?_ _ | with_reducible refine Has1.set ?_ _ | with_reducible refine Has1.other ?_ ?_ _ | omega | (simp <;> omega))) hb2 (by first | omega | (simp <;> omega))
  have La_2 := a_2.lt
  have B2 : Below w.heap.size w w2 := Below.trans (by repeat' (first | with_reducible exact B1 | with_reducible exact Below.refl _ _ | with_reducible refine Below.drew ?_ | with_reducible refine Below.alloc ?_ ?_ _ | with_reducible refine bset ?_ ?_ _ | omega | (simp <;> omega))) (hb2.mono (by first | omega | (simp <;> omega)))
  have hz2 := B2.size
  clear hb2 l_1 Ll_1 B1
  have Lm_2 := m_2.lt
  clear hbb2
  have ca_2 : w2.cell? ⟨w1.heap.size, 0, none⟩ = some (.int .u64 (shufS s n)) := a_2.cell (j := 0) rfl
  have fa_2 : w2.frozen? ⟨w1.heap.size, 0, none⟩ = false := a_2.free 0
  go_wp2_with fail
  refine (ints_any _ _ (clampN n) (clampN n) (clampN n) (shufL s n) _ (by omega) (shufL_length s n) (Row.ofHas (T := 3) (by repeat' (first | with_reducible exact l_2 | ((with_reducible refine Has.newAt ?_); (first | omega | (simp; done) | (simp; omega))) | with_reducible refine Has.drew ?_ | with_reducible refine Has.alloc ?_ _ | with_reducible refine Has.one ?_ _ | with_reducible refine Has.other ?_ ?_ _ | with_reducible exact Has1.of l_2 | ((with_reducible refine Has1.newAt ?_); (first | omega | (simp; done) | (simp; omega))) | with_reducible refine Has1.drew ?_ | with_reducible refine Has1.alloc ?_ _ | with_reducible refine Has1.set ?_ _ | with_reducible refine Has1.other ?_ ?_ _ | omega | (simp <;> omega)))) (Row.ofHas (T := 3) (by repeat' (first | with_reducible exact m_2 | ((with_reducible refine Has.newAt ?_); (first | omega | (simp; done) | (simp; omega))) | with_reducible refine Has.drew ?_ | with_reducible refine Has.alloc ?_ _ | with_reducible refine Has.one ?_ _ | with_reducible refine Has.other ?_ ?_ _ | with_reducible exact Has1.of m_2 | ((with_reducible refine Has1.newAt ?_); (first | omega | (simp; done) | (simp; omega))) | with_reducible refine Has1.drew ?_ | with_reducible refine Has1.alloc ?_ _ | with_reducible refine Has1.set ?_ _ | with_reducible refine Has1.other ?_ ?_ _ | omega | (simp <;> omega))))).mono ?_
  rintro e w3 ⟨rfl, hb3⟩
  have l_3 : Has w3 (b1) (ints (shufL s n)) 3 := Has.below (by repeat' (first | with_reducible exact l_2 | ((with_reducible refine Has.newAt ?_); (first | omega | (simp; done) | (simp; omega))) | with_reducible refine Has.drew ?_ | with_reducible refine Has.alloc ?_ _ | with_reducible refine Has.one ?_ _ | with_reducible refine Has.other ?_ ?_ _ | with_reducible exact Has1.of l_2 | ((with_reducible refine Has1.newAt ?_); (first | omega | (simp; done) | (simp; omega))) | with_reducible refine Has1.drew ?_ | with_reducible refine Has1.alloc ?_ _ | with_reducible refine Has1.set ?_ _ | with_reducible refine Has1.other ?_ ?_ _ | omega | (simp <;> omega))) hb3 (by first | omega | (simp <;> omega))
  have Ll_3 := l_3.lt
  have a_3 : Has w3 (w1.heap.size) #[.int .u64 (shufS s n)] 24 := Has.below (by repeat' (first | with_reducible exact a_2 | ((with_reducible refine Has.newAt ?_); (first | omega | (simp; done) | (simp; omega))) | with_reducible refine Has.drew ?_ | with_reducible refine Has.alloc ?_ _ | with_reducible refine Has.one ?_ _ | with_reducible refine Has.other ?_ ?_ _ | with_reducible exact Has1.of a_2 | ((with_reducible refine Has1.newAt ?_); (first | omega | (simp; done) | (simp; omega))) | with_reducible refine Has1.drew ?_ | with_reducible refine Has1.alloc ?_ _ | with_reducible refine Has1.set ?_ _ | with_reducible refine Has1.other ?_ ?_ _ | omega | (simp <;> omega))) hb3 (by first | omega | (simp <;> omega))
  have La_3 := a_3.lt
  have m_3 : Has w3 (b2) (ints (shufL s n)) 3 := Has.below (by repeat' (first | with_reducible exact m_2 | ((with_reducible refine Has.newAt ?_); (first | omega | (simp; done) | (simp; omega))) | with_reducible refine Has.drew ?_ | with_reducible refine Has.alloc ?_ _ | with_reducible refine Has.one ?_ _ | with_reducible refine Has.other ?_ ?_ _ | with_reducible exact Has1.of m_2 | ((with_reducible refine Has1.newAt ?_); (first | omega | (simp; done) | (simp; omega))) | with_reducible refine Has1.drew ?_ | with_reducible refine Has1.alloc ?_ _ | with_reducible refine Has1.set ?_ _ | with_reducible refine Has1.other ?_ ?_ _ | omega | (simp <;> omega))) hb3 (by first | omega | (simp <;> omega))
  have Lm_3 := m_3.lt
  have B3 : Below w.heap.size w w3 := Below.trans (by repeat' (first | with_reducible exact B2 | with_reducible exact Below.refl _ _ | with_reducible refine Below.drew ?_ | with_reducible refine Below.alloc ?_ ?_ _ | with_reducible refine bset ?_ ?_ _ | omega | (simp <;> omega))) (hb3.mono (by first | omega | (simp <;> omega)))
  have hz3 := B3.size
  clear hb3 l_2 a_2 m_2 Ll_2 La_2 Lm_2 B2
  go_wp2_with fail
  refine (awake_any _).mono ?_
  rintro e w4 ⟨rfl, hb4⟩
  have l_4 : Has w4 (b1) (ints (shufL s n)) 3 := Has.below (by repeat' (first | with_reducible exact l_3 | ((with_reducible refine Has.newAt ?_); (first | omega | (simp; done) | (simp; omega))) | with_reducible refine Has.drew ?_ | with_reducible refine Has.alloc ?_ _ | with_reducible refine Has.one ?_ _ | with_reducible refine Has.other ?_ ?_ _ | with_reducible exact Has1.of l_3 | ((with_reducible refine Has1.newAt ?_); (first | omega | (simp; done) | (simp; omega))) | with_reducible refine Has1.drew ?_ | with_reducible refine Has1.alloc ?_ _ | with_reducible refine Has1.set ?_ _ | with_reducible refine Has1.other ?_ ?_ _ | omega | (simp <;> omega))) hb4 (by first | omega | (simp <;> omega))
  have Ll_4 := l_4.lt
  have a_4 : Has w4 (w1.heap.size) #[.int .u64 (shufS s n)] 24 := Has.below (by repeat' (first | with_reducible exact a_3 | ((with_reducible refine Has.newAt ?_); (first | omega | (simp; done) | (simp; omega))) | with_reducible refine Has.drew ?_ | with_reducible refine Has.alloc ?_ _ | with_reducible refine Has.one ?_ _ | with_reducible refine Has.other ?_ ?_ _ | with_reducible exact Has1.of a_3 | ((with_reducible refine Has1.newAt ?_); (first | omega | (simp; done) | (simp; omega))) | with_reducible refine Has1.drew ?_ | with_reducible refine Has1.alloc ?_ _ | with_reducible refine Has1.set ?_ _ | with_reducible refine Has1.other ?_ ?_ _ | omega | (simp <;> omega))) hb4 (by first | omega | (simp <;> omega))
  have La_4 := a_4.lt
  have m_4 : Has w4 (b2) (ints (shufL s n)) 3 := Has.below (by repeat' (first | with_reducible exact m_3 | ((with_reducible refine Has.newAt ?_); (first | omega | (simp; done) | (simp; omega))) | with_reducible refine Has.drew ?_ | with_reducible refine Has.alloc ?_ _ | with_reducible refine Has.one ?_ _ | with_reducible refine Has.other ?_ ?_ _ | with_reducible exact Has1.of m_3 | ((with_reducible refine Has1.newAt ?_); (first | omega | (simp; done) | (simp; omega))) | with_reducible refine Has1.drew ?_ | with_reducible refine Has1.alloc ?_ _ | with_reducible refine Has1.set ?_ _ | with_reducible refine Has1.other ?_ ?_ _ | omega | (simp <;> omega))) hb4 (by first | omega | (simp <;> omega))
  have Lm_4 := m_4.lt
  have B4 : Below w.heap.size w w4 := Below.trans (by repeat' (first | with_reducible exact B3 | with_reducible exact Below.refl _ _ | with_reducible refine Below.drew ?_ | with_reducible refine Below.alloc ?_ ?_ _ | with_reducible refine bset ?_ ?_ _ | omega | (simp <;> omega))) (hb4.mono (by first | omega | (simp <;> omega)))
  have hz4 := B4.size
  clear hb4 l_3 a_3 m_3 Ll_3 La_3 Lm_3 B3
  go_wp2_with fail
  go_ret
  exact ⟨rfl, (by repeat' (first | with_reducible exact B4 | with_reducible exact Below.refl _ _ | with_reducible refine Below.drew ?_ | with_reducible refine Below.alloc ?_ ?_ _ | with_reducible refine bset ?_ ?_ _ | omega | (simp <;> omega)))⟩

set_option maxHeartbeats 1000000 in
theorem picks_any (s : Int) (ad : Option Addr) (n cap : Nat) (ws : List Int) (w : World) (hm : n ≤ 9223372036854775807) (hlen : ws.length = n) (hr : Row w ad ws) :
    Calls Try.prog 6 #[.int .u64 s, .slice ad n cap] w fun e w' => e = .returned (.bool true) ∧ Below w.heap.size w w' := by
  have Hlen := hid hlen
  clear hlen
  by_cases h : 5000 < n
  · go_enter Try.func6, Try.ntmps6
    go_wp2_with fail
    refine (awake_any _).mono ?_
    rintro e w1 ⟨rfl, hb1⟩
    have B1 : Below w.heap.size w w1 := Below.trans (by repeat' (first | with_reducible exact rfl | with_reducible exact Below.refl _ _ | with_reducible refine Below.drew ?_ | with_reducible refine Below.alloc ?_ ?_ _ | with_reducible refine bset ?_ ?_ _ | omega | (simp <;> omega))) (hb1.mono (by first | omega | (simp <;> omega)))
    have hz1 := B1.size
    clear hb1
    go_wp2_with fail
    go_ret
    exact ⟨rfl, (by repeat' (first | with_reducible exact B1 | with_reducible exact Below.refl _ _ | with_reducible refine Below.drew ?_ | with_reducible refine Below.alloc ?_ ?_ _ | with_reducible refine bset ?_ ?_ _ | omega | (simp <;> omega)))⟩
  · go_enter Try.func6, Try.ntmps6
    go_wp2_with fail
    refine (pick_any _ _ _ _ ws _ hm Hlen.out hr).mono ?_
    rintro e w1 ⟨rfl, hb1⟩
    have B1 : Below w.heap.size w w1 := Below.trans (by repeat' (first | with_reducible exact rfl | with_reducible exact Below.refl _ _ | with_reducible refine Below.drew ?_ | with_reducible refine Below.alloc ?_ ?_ _ | with_reducible refine bset ?_ ?_ _ | omega | (simp <;> omega))) (hb1.mono (by first | omega | (simp <;> omega)))
    have hz1 := B1.size
    clear hb1
    have hr1 := hr.below B1 (Nat.le_refl _)
    have hr1' : Row (w1.alloc (.cells #[.int .u64 (pickS s ws)] 24)) ad ws := hr1.below ((Below.refl _ _).alloc (Nat.le_refl _) _) (Nat.le_refl _)
    go_wp2_with fail
    refine (rpick_any _ _ _ _ ws _ hm Hlen.out hr1').mono ?_
    rintro e w2 ⟨rfl, hb2⟩
    have a_2 : Has w2 (w1.heap.size) #[.int .u64 (pickS s ws)] 24 := Has.below (by repeat' (first | with_reducible exact rfl | ((with_reducible refine Has.newAt ?_); (first | omega | (simp; done) | (simp; omega))) | with_reducible refine Has.drew ?_ | with_reducible refine Has.alloc ?_ _ | with_reducible refine Has.one ?_ _ | with_reducible refine Has.other ?_ ?_ _ | with_reducible exact Has1.of rfl | ((with_reducible refine Has1.newAt ?_); (first | omega | (simp; done) | (simp; omega))) | with_reducible refine Has1.drew ?_ | with_reducible refine Has1.alloc ?_ _ | with_reducible refine Has1.set ?_ _ | with_reducible refine Has1.other ?_ ?_ _ | omega | (simp <;> omega))) hb2 (by first | omega | (simp <;> omega))
    have La_2 := a_2.lt
    have B2 : Below w.heap.size w w2 := Below.trans (by repeat' (first | with_reducible exact B1 | with_reducible exact Below.refl _ _ | with_reducible refine Below.drew ?_ | with_reducible refine Below.alloc ?_ ?_ _ | with_reducible refine bset ?_ ?_ _ | omega | (simp <;> omega))) (hb2.mono (by first | omega | (simp <;> omega)))
    have hz2 := B2.size
    clear hb2 B1
    have ca_2 : w2.cell? ⟨w1.heap.size, 0, none⟩ = some (.int .u64 (pickS s ws)) := a_2.cell (j := 0) rfl
    have fa_2 : w2.frozen? ⟨w1.heap.size, 0, none⟩ = false := a_2.free 0
    go_wp2_with fail
    refine (awake_any _).mono ?_
    rintro e w3 ⟨rfl, hb3⟩
    have a_3 : Has w3 (w1.heap.size) #[.int .u64 (pickS s ws)] 24 := Has.below (by repeat' (first | with_reducible exact a_2 | ((with_reducible refine Has.newAt ?_); (first | omega | (simp; done) | (simp; omega))) | with_reducible refine Has.drew ?_ | with_reducible refine Has.alloc ?_ _ | with_reducible refine Has.one ?_ _ | with_reducible refine Has.other ?_ ?_ _ | with_reducible exact Has1.of a_2 | ((with_reducible refine Has1.newAt ?_); (first | omega | (simp; done) | (simp; omega))) | with_reducible refine Has1.drew ?_ | with_reducible refine Has1.alloc ?_ _ | with_reducible refine Has1.set ?_ _ | with_reducible refine Has1.other ?_ ?_ _ | omega | (simp <;> omega))) hb3 (by first | omega | (simp <;> omega))
    have La_3 := a_3.lt
    have B3 : Below w.heap.size w w3 := Below.trans (by repeat' (first | with_reducible exact B2 | with_reducible exact Below.refl _ _ | with_reducible refine Below.drew ?_ | with_reducible refine Below.alloc ?_ ?_ _ | with_reducible refine bset ?_ ?_ _ | omega | (simp <;> omega))) (hb3.mono (by first | omega | (simp <;> omega)))
    have hz3 := B3.size
    clear hb3 a_2 La_2 B2
    go_wp2_with fail
    go_ret
    exact ⟨rfl, (by repeat' (first | with_reducible exact B3 | with_reducible exact Below.refl _ _ | with_reducible refine Below.drew ?_ | with_reducible refine Below.alloc ?_ ?_ _ | with_reducible refine bset ?_ ?_ _ | omega | (simp <;> omega)))⟩
end Go.Proofs.Ytaekpkedjeefcaa
