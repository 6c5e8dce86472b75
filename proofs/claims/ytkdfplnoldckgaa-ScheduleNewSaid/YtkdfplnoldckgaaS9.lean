/-
  The walks of combinations and Robin of the program.
-/
import Derived.Test.YtkdfplnoldckgaaRows
import Derived.Test.YtkdfplnoldckgaaSMem
import Derived.Test.YtkdfplnoldckgaaSPlain2
import Derived.Test.YtkdfplnoldckgaaS3
import Derived.Test.YtkdfplnoldckgaaS6
import Derived.Test.YtkdfplnoldckgaaS8
import Derived.WalkKit
import Derived.ProofKit
import Derived.OpenShut
import Derived.Laws.EntriesVeiled
import Derived.Deep.DeepMust
import Derived.Outline
namespace Go.Proofs.Ytkdfplnoldckgaa
open Go.ChangeShapes Go.WideShapes Go.ChangeAt Go.RowKit

theorem add_any (Bp Bs By Ba Bo BsR B base n s : Nat) (hbase : base ≤ Bo) (hs : 3 ≤ s ∧ s ≤ 4) (hn : n ≤ 16) : ∀ m, AddSaid Bp Bs By Ba Bo BsR B base n s m
  | 0 => add_zero Bp Bs By Ba Bo BsR B base n s hbase hs
  | m + 1 => add_succ Bp Bs By Ba Bo BsR B base n s m hbase hs hn (hid (add_any Bp Bs By Ba Bo BsR B base n s hbase hs hn m))
set_option maxHeartbeats 1000000 in
theorem combos_any (Bo BsR base n s : Nat) (w : World) (hs : 3 ≤ s ∧ s ≤ 4) (hn : n ≤ 16) (hbase : base ≤ Bo) (hO : Has w Bo #[.slice none 0 0] 22) (hR : w.cell? ⟨BsR, 0, none⟩ = some (.int .i64 s)) (hne : BsR ≠ Bo) :
    Calls Try.prog 29 #[.int .i64 n, .int .i64 s, yieldV Bo BsR] w fun e w' => e = .returned (.tuple #[]) ∧ ∃ vo' B, OutSt Bo B w' vo' (robTo s (combs n s 0) (combs n s 0).length) ∧ Below base w w' := by
  have hOl := hO.lt
  have hRl := lt_of_cell hR
  have hfin := hid (show robFold s [] ((combs n s 0).map (([] : List Int) ++ ·)) = robTo s (combs n s 0) (combs n s 0).length by simp [robFold_all])
  have hlen := hid (show ([] : List (List (List Int))).length + (combs n s 0).length ≤ 100000 by have := combs_small hn hs.2 0; simp; omega)
  unfold yieldV
  go_enter Try.func29, Try.ntmps29
  go_wp2_with fail
  obtain ⟨W, eW⟩ : ∃ W, W = ((((w.alloc (.cells #[.int .i64 n] 3)).alloc (.cells #[.int .i64 s] 3)).alloc (.cells #[yieldV Bo BsR] 58)).alloc (.cells #[addV (w.heap.size + 1) (w.heap.size + 1 + 1) w.heap.size (w.heap.size + 1 + 1 + 1)] 58)) := ⟨_, rfl⟩
  have hp : Has W w.heap.size #[.int .i64 n] 3 := by rw [eW]; exact (((Has.new w _ _).alloc _).alloc _).alloc _
  have hsx : Has W (w.heap.size + 1) #[.int .i64 s] 3 := by rw [eW]; exact ((Has.newAt (by simp)).alloc _).alloc _
  have hy : Has W (w.heap.size + 1 + 1) #[yieldV Bo BsR] 58 := by rw [eW]; exact (Has.newAt (by simp)).alloc _
  have ha : Has W (w.heap.size + 1 + 1 + 1) #[addV (w.heap.size + 1) (w.heap.size + 1 + 1) w.heap.size (w.heap.size + 1 + 1 + 1)] 58 := by rw [eW]; exact Has.newAt (by simp)
  have bW : Below w.heap.size w W := by rw [eW]; exact ((((Below.refl _ w).alloc (Nat.le_refl _) _).alloc (by simp) _).alloc (by simp; omega) _).alloc (by simp; omega) _
  have hEnv : Env w.heap.size (w.heap.size + 1) (w.heap.size + 1 + 1) (w.heap.size + 1 + 1 + 1) Bo BsR (w.heap.size + 1 + 1 + 1 + 1) n s W :=
    ⟨hp.cell (j := 0) rfl, hsx.cell (j := 0) rfl, hy.cell (j := 0) rfl, ha.cell (j := 0) rfl, (bW.cell (p := ⟨BsR, 0, none⟩) hRl).trans hR, ⟨by omega, by omega, by omega, by omega, by omega⟩, ⟨by omega, by omega, by omega, by omega, hne⟩⟩
  have hOut : OutSt Bo (w.heap.size + 1 + 1 + 1 + 1) W (.slice none 0 0) [] := ⟨hO.below bW hOl, OwnL.nil _ _ _ _, by omega, ha.lt⟩
  show Calls _ _ _ ((((w.alloc (.cells #[.int .i64 n] 3)).alloc (.cells #[.int .i64 s] 3)).alloc (.cells #[yieldV Bo BsR] 58)).alloc (.cells #[addV (w.heap.size + 1) (w.heap.size + 1 + 1) w.heap.size (w.heap.size + 1 + 1 + 1)] 58)) _
  rw [← eW]
  clear eW hp hsx hy ha
  refine (add_any w.heap.size (w.heap.size + 1) (w.heap.size + 1 + 1) (w.heap.size + 1 + 1 + 1) Bo BsR (w.heap.size + 1 + 1 + 1 + 1) base n s hbase hs hn s 0 0 0 none [] (.slice none 0 0) [] W (by omega) (by omega) (fun h => by omega) (fun _ => rfl) (Rests.empty _ _) hEnv hOut hlen.out).mono ?_
  rintro e w1 ⟨rfl, v1, h1, h2⟩
  go_wp2
  refine bodyPost_end (results_none rfl _ _ _) rfl ?_
  exact ⟨rfl, v1, _, by rw [← hfin.out]; exact h1, (bW.mono (by omega)).trans h2.bel⟩
theorem robin_err (n s : Int) (w : World) (h : s < 2 ∨ 4 < s ∨ n < s ∨ 16 < n) : Calls Try.prog 10 #[.int .i64 n, .int .i64 s] w (RobinSaid n s w) := by
  have hE := hid (show robinL n s = [] ∧ 12 = robinE n s by unfold robinL robinE; rw [if_pos h, if_pos h]; exact ⟨rfl, rfl⟩)
  by_cases h1 : s < 2
  · go_enter Try.func10, Try.ntmps10
    go_wp2
    go_ret2
    exact ⟨_, _, rfl, by rw [hE.out.1]; exact OwnL.nil _ _ _ _, hE.out.2, (Below.refl _ w).alloc (Nat.le_refl _) _⟩
  by_cases h2 : 4 < s
  · go_enter Try.func10, Try.ntmps10
    go_wp2
    go_ret2
    exact ⟨_, _, rfl, by rw [hE.out.1]; exact OwnL.nil _ _ _ _, hE.out.2, (Below.refl _ w).alloc (Nat.le_refl _) _⟩
  by_cases h3 : n < s
  · go_enter Try.func10, Try.ntmps10
    go_wp2
    go_ret2
    exact ⟨_, _, rfl, by rw [hE.out.1]; exact OwnL.nil _ _ _ _, hE.out.2, (Below.refl _ w).alloc (Nat.le_refl _) _⟩
  · have h4 : 16 < n := by omega
    go_enter Try.func10, Try.ntmps10
    go_wp2
    go_ret2
    exact ⟨_, _, rfl, by rw [hE.out.1]; exact OwnL.nil _ _ _ _, hE.out.2, (Below.refl _ w).alloc (Nat.le_refl _) _⟩
theorem robin_two' (n : Nat) (w : World) (h2 : 2 ≤ n) (h16 : n ≤ 16) : Calls Try.prog 10 #[.int .i64 n, .int .i64 2] w (RobinSaid n 2 w) := by
  have hE := hid (robin_two h2 h16)
  have a1 : (2 : Int) ≤ n := by omega
  have a2 : (n : Int) ≤ 16 := by omega
  go_enter Try.func10, Try.ntmps10
  go_wp2_with fail
  refine (circle_any n _ h2 h16).mono ?_
  rintro e w1 ⟨v, rfl, own, b1⟩
  go_wp2
  go_ret2
  exact ⟨_, _, rfl, by rw [hE.out.1]; exact own.rebase (by simp), hE.out.2, ((Below.refl _ w).alloc (Nat.le_refl _) _).trans (b1.mono (by simp))⟩
set_option maxHeartbeats 1000000 in
theorem robin_more' (n s : Nat) (w : World) (hs : 3 ≤ s) (hs4 : s ≤ 4) (hsn : s ≤ n) (h16 : n ≤ 16) : Calls Try.prog 10 #[.int .i64 n, .int .i64 s] w (RobinSaid n s w) := by
  have hE := hid (robin_more hs hs4 hsn h16)
  have a1 : (3 : Int) ≤ s := by omega
  have a2 : (s : Int) ≤ 4 := by omega
  have a3 : (s : Int) ≤ n := by omega
  have a4 : (n : Int) ≤ 16 := by omega
  have a5 : ((s : Int) == 2) = false := by simp; omega
  go_enter Try.func10, Try.ntmps10
  go_wp2_with fail
  refine (combos_any (w.heap.size + 1) w.heap.size w.heap.size n s _ ⟨hs, hs4⟩ h16 (by omega) (Has.newAt (by simp)) (((Has.new w _ _).alloc _).cell (j := 0) rfl) (by omega)).mono ?_
  rintro e w1 ⟨rfl, v1, B, h1, b1⟩
  have hc := h1.has.cell (j := 0) rfl
  go_wp2
  go_ret2
  have b0 : Below w.heap.size w w1 := (((Below.refl _ w).alloc (Nat.le_refl _) _).alloc (by simp) _).trans b1
  exact ⟨_, _, rfl, by rw [hE.out.1]; exact h1.own.rebase (by have := h1.lt; omega), hE.out.2, b0⟩
theorem robin_any (n s : Int) (w : World) : Calls Try.prog 10 #[.int .i64 n, .int .i64 s] w (RobinSaid n s w) := by
  by_cases h : s < 2 ∨ 4 < s ∨ n < s ∨ 16 < n
  · exact robin_err n s w h
  · obtain ⟨n, rfl⟩ := Int.eq_ofNat_of_zero_le (show 0 ≤ n by omega)
    by_cases h2 : s = 2
    · subst h2; exact robin_two' n w (by omega) (by omega)
    · obtain ⟨s, rfl⟩ := Int.eq_ofNat_of_zero_le (show 0 ≤ s by omega)
      exact robin_more' n s w (by omega) (by omega) (by omega) (by omega)
end Go.Proofs.Ytkdfplnoldckgaa
