/-
  The walk of the law ScheduleChecks.
-/
import Derived.Test.YtkdfplnoldckgaaRows
import Derived.Test.YtkdfplnoldckgaaS26
import Derived.Test.YtkdfplnoldckgaaS27
import Derived.Test.YtkdfplnoldckgaaS29
import Derived.Test.YtkdfplnoldckgaaS30
import Derived.Test.YtkdfplnoldckgaaS31
import Derived.Test.YtkdfplnoldckgaaS33
import Derived.WalkKit
import Derived.ProofKit
import Derived.OpenShut
import Derived.Outline
import Derived.Deep.RegionHeld3
import Derived.Deep.DeepMust
namespace Go.Proofs.Ytkdfplnoldckgaa
open Go.ChangeShapes Go.WideShapes Go.ChangeAt Go.RowKit

set_option maxRecDepth 20000 in
set_option maxHeartbeats 4000000 in
theorem checks_any (ad : Option Addr) (n cap : Nat) (L : List (List (List Int))) (N x0 x1 x2 : Int) (w : World) (h : HeldL RoundC w ad n cap L) :
    Calls Try.prog 8 #[.slice ad n cap, .int .i64 N, .agg #[.int .i64 x0, .int .i64 x1, .int .i64 x2]] w fun e w' => e = .returned (.bool true) ∧ Below w.heap.size w w' := by
  have b0 : Below w.heap.size w (w.alloc (.cells #[.int .i64 x0, .int .i64 x1, .int .i64 x2] 49)) := (Below.refl _ _).alloc (Nat.le_refl _) _
  have h0 := h.below b0 (Nat.le_refl _)
  go_enter Try.func8, Try.ntmps8
  go_wp2_with fail
  refine (few_any ad n cap L _ h0).mono ?_
  rintro e w0 ⟨rfl, ew0⟩
  cases hS : fewB L
  · subst ew0
    go_wp2_with fail
    refine (awake_any _).mono ?_
    rintro e w1 ⟨rfl, b1⟩
    go_wp2
    go_ret
    exact ⟨rfl, b0.trans (b1.mono b0.size)⟩
  · have HM := hid (fewB_modest L hS)
    have hn10 : n ≤ 10000 := by rw [← h.len]; exact HM.out.1
    have HR := hid (fun r hr => (HM.out.2 r hr).1)
    clear hS
    obtain ⟨w1, ew1⟩ : ∃ w1, w1 = w0 := ⟨_, rfl⟩
    have D : Has w1 w.heap.size #[.int .i64 x0, .int .i64 x1, .int .i64 x2] 49 := by rw [ew1, ew0]; exact Has.new _ _ _
    have bw1 : Below w.heap.size w w1 := by rw [ew1, ew0]; exact b0
    have hw1 := h.below bw1 (Nat.le_refl _)
    rw [← ew1]
    clear ew0 ew1 b0 h0 h
    have d0w1 := D.cell (j := 0) rfl
    have d1w1 := D.cell (j := 1) rfl
    have d2w1 := D.cell (j := 2) rfl
    clear D
    obtain ⟨E, eE⟩ : ∃ E, checkE N L = E := ⟨_, rfl⟩
    obtain ⟨M, eM⟩ : ∃ M : Int, (meetN L x0 x1 : Int) = M := ⟨_, rfl⟩
    obtain ⟨l6, el6⟩ : ∃ l6, l6 = balX L N x2 := ⟨_, rfl⟩
    obtain ⟨n6, en6⟩ : ∃ n6, n6 = l6.length := ⟨_, rfl⟩
    have El := hid el6
    have En := hid en6
    have EE := hid eE
    have EM := hid eM
    clear el6 en6 eE eM
    go_wp2
    go_region_held3 (fun wx => wx.cell? ⟨w.heap.size, 0, none⟩ = some (.int .i64 x0) ∧ wx.cell? ⟨w.heap.size, 1, none⟩ = some (.int .i64 x1) ∧ wx.cell? ⟨w.heap.size, 2, none⟩ = some (.int .i64 x2)) (first | exact ⟨d0w1, d1w1, d2w1⟩ | exact ⟨d0w2, d1w2, d2w2⟩ | exact ⟨d0w3, d1w3, d2w3⟩ | exact ⟨d0w4, d1w4, d2w4⟩ | exact ⟨d0w5, d1w5, d2w5⟩ | exact ⟨d0w6, d1w6, d2w6⟩ | exact ⟨d0w7, d1w7, d2w7⟩ | exact ⟨d0w8, d1w8, d2w8⟩ | exact ⟨d0w9, d1w9, d2w9⟩)
      (first
        | (go_at_call 22; refine (check_any ad n cap N L _ ?_).mono ?_; exact hw1.below (by repeat' (first | with_reducible exact Below.refl _ _ | with_reducible refine Below.drew ?_)) (Nat.le_refl _); rintro e w2 ⟨rfl, ow2⟩; have ow2 : Below w1.heap.size w1 w2 := ⟨ow2.os, ow2.tape, ow2.output, ow2.size, ow2.block⟩; have bw2 := bw1.trans (ow2.mono bw1.size); have d0w2 := (ow2.cell (lt_of_cell d0w1)).trans d0w1; have d1w2 := (ow2.cell (lt_of_cell d1w1)).trans d1w1; have d2w2 := (ow2.cell (lt_of_cell d2w1)).trans d2w1; have hw2 := hw1.below ow2 (Nat.le_refl _); rw [EE.out])
        | (go_at_call 23; refine (rcheck_any ad n cap N L _ HM.out ?_).mono ?_; exact hw2.below (by repeat' (first | with_reducible exact Below.refl _ _ | with_reducible refine Below.drew ?_)) (Nat.le_refl _); rintro e w3 ⟨rfl, ow3⟩; have ow3 : Below w2.heap.size w2 w3 := ⟨ow3.os, ow3.tape, ow3.output, ow3.size, ow3.block⟩; have bw3 := bw2.trans (ow3.mono bw2.size); have d0w3 := (ow3.cell (lt_of_cell d0w2)).trans d0w2; have d1w3 := (ow3.cell (lt_of_cell d1w2)).trans d1w2; have d2w3 := (ow3.cell (lt_of_cell d2w2)).trans d2w2; have hw3 := hw2.below ow3 (Nat.le_refl _); rw [EE.out])
        | (go_at_call 18; refine (meetings_any ad n cap L x0 x1 _ hn10 HR.out ?_).mono ?_; exact hw3.below (by repeat' (first | with_reducible exact Below.refl _ _ | with_reducible refine Below.drew ?_)) (Nat.le_refl _); rintro e w4 ⟨rfl, ow4⟩; have ow4 : Below w3.heap.size w3 w4 := ⟨ow4.os, ow4.tape, ow4.output, ow4.size, ow4.block⟩; have bw4 := bw3.trans (ow4.mono bw3.size); have d0w4 := (ow4.cell (lt_of_cell d0w3)).trans d0w3; have d1w4 := (ow4.cell (lt_of_cell d1w3)).trans d1w3; have d2w4 := (ow4.cell (lt_of_cell d2w3)).trans d2w3; have hw4 := hw3.below ow4 (Nat.le_refl _); rw [EM.out])
        | (go_at_call 24; refine (rmeetings_any ad n cap L x0 x1 _ hn10 HR.out ?_).mono ?_; exact hw4.below (by repeat' (first | with_reducible exact Below.refl _ _ | with_reducible refine Below.drew ?_)) (Nat.le_refl _); rintro e w5 ⟨rfl, qw5⟩; have ow5 : Below w4.heap.size w4 w5 := (by rw [qw5]; exact ⟨rfl, rfl, rfl, Nat.le_refl _, fun _ _ => rfl⟩); clear qw5; have bw5 := bw4.trans (ow5.mono bw4.size); have d0w5 := (ow5.cell (lt_of_cell d0w4)).trans d0w4; have d1w5 := (ow5.cell (lt_of_cell d1w4)).trans d1w4; have d2w5 := (ow5.cell (lt_of_cell d2w4)).trans d2w4; have hw5 := hw4.below ow5 (Nat.le_refl _); rw [EM.out])
        | (go_at_call 26; refine (balance_any ad n cap L N x2 _ HM.out ?_).mono ?_; exact hw5.below (by repeat' (first | with_reducible exact Below.refl _ _ | with_reducible refine Below.drew ?_)) (Nat.le_refl _); rintro e w6 ⟨v6, rfl, own6, ow6⟩; have ow6 : Below w5.heap.size w5 w6 := ⟨ow6.os, ow6.tape, ow6.output, ow6.size, ow6.block⟩; have bw6 := bw5.trans (ow6.mono bw5.size); have d0w6 := (ow6.cell (lt_of_cell d0w5)).trans d0w5; have d1w6 := (ow6.cell (lt_of_cell d1w5)).trans d1w5; have d2w6 := (ow6.cell (lt_of_cell d2w5)).trans d2w5; have hw6 := hw5.below ow6 (Nat.le_refl _); rw [← El.out] at own6; obtain ⟨a6, p6, rfl, z6⟩ := own6.slice; rw [← En.out] at z6 ⊢)
        | (go_at_call 27; refine (rbalance_any ad n cap L N x2 _ HM.out ?_).mono ?_; exact hw6.below (by repeat' (first | with_reducible exact Below.refl _ _ | with_reducible refine Below.drew ?_)) (Nat.le_refl _); rintro e w7 ⟨v7, rfl, own7, ow7⟩; have ow7 : Below w6.heap.size w6 w7 := ⟨ow7.os, ow7.tape, ow7.output, ow7.size, ow7.block⟩; have bw7 := bw6.trans (ow7.mono bw6.size); have d0w7 := (ow7.cell (lt_of_cell d0w6)).trans d0w6; have d1w7 := (ow7.cell (lt_of_cell d1w6)).trans d1w6; have d2w7 := (ow7.cell (lt_of_cell d2w6)).trans d2w6; have hw7 := hw6.below ow7 (Nat.le_refl _); rw [← El.out] at own7; obtain ⟨a7, p7, rfl, z7⟩ := own7.slice; rw [← En.out] at z7 ⊢; have z8 := z6.below ow7 (Nat.le_refl _))
        | (go_at_call 25; refine (lists_any a6 a7 n6 n6 p6 p7 l6 _ ?_ ?_).mono ?_; exact z8.below (by repeat' (first | with_reducible exact Below.refl _ _ | with_reducible refine Below.drew ?_)) (Nat.le_refl _); exact z7.below (by repeat' (first | with_reducible exact Below.refl _ _ | with_reducible refine Below.drew ?_)) (Nat.le_refl _); rintro e w8 ⟨rfl, q8, qw8⟩; have ow8 : Below w7.heap.size w7 w8 := (by rw [qw8]; exact ⟨rfl, rfl, rfl, Nat.le_refl _, fun _ _ => rfl⟩); clear qw8; have bw8 := bw7.trans (ow8.mono bw7.size); have d0w8 := (ow8.cell (lt_of_cell d0w7)).trans d0w7; have d1w8 := (ow8.cell (lt_of_cell d1w7)).trans d1w7; have d2w8 := (ow8.cell (lt_of_cell d2w7)).trans d2w7)
        | (go_at_call 13; refine (awake_any _).mono ?_; rintro e w9 ⟨rfl, ow9⟩; have ow9 : Below w8.heap.size w8 w9 := ⟨ow9.os, ow9.tape, ow9.output, ow9.size, ow9.block⟩; have bw9 := bw8.trans (ow9.mono bw8.size); have d0w9 := (ow9.cell (lt_of_cell d0w8)).trans d0w8; have d1w9 := (ow9.cell (lt_of_cell d1w8)).trans d1w8; have d2w9 := (ow9.cell (lt_of_cell d2w8)).trans d2w8))
    go_wp2
    go_ret
    exact ⟨rfl, bw9⟩
end Go.Proofs.Ytkdfplnoldckgaa
