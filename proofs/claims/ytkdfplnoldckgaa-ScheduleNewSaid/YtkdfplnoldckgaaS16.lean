/-
  The walk of paired.
-/
import Derived.Test.YtkdfplnoldckgaaRows
import Derived.Test.YtkdfplnoldckgaaSMem
import Derived.Test.YtkdfplnoldckgaaSPlain7
import Derived.Test.YtkdfplnoldckgaaS15
import Derived.WalkKit
import Derived.ProofKit
import Derived.OpenShut
import Derived.Laws.EntriesVeiled
import Derived.Deep.DeepMust
import Derived.Outline
namespace Go.Proofs.Ytkdfplnoldckgaa
open Go.ChangeShapes Go.WideShapes Go.ChangeAt Go.RowKit

theorem find_zero (Bm Bf Bp Bv : Nat) (ap : Option Addr) (np cp : Nat) (PL0 : List (List Int)) (players : List Int) : FindSaid Bm Bf Bp Bv ap np cp PL0 players 0 := by
  intro left ad n cap nm F w hlf hsub hl hE hM hF hU
  obtain rfl : left = [] := List.eq_nil_of_length_eq_zero (by omega)
  obtain ⟨_, _, _, e, h1, _⟩ := hl.now
  cases e
  obtain rfl : n = 0 := h1.symm
  exact find_nil Bm Bf Bp Bv PL0 players 0 ad cap nm F w hM hF
theorem find_any (Bm Bf Bp Bv : Nat) (ap : Option Addr) (np cp : Nat) (PL0 : List (List Int)) (players : List Int) (hP : players.Nodup) (hr : ∀ p ∈ players, 0 ≤ p ∧ p < 16) (hpl : players.length ≤ 16) : ∀ f, FindSaid Bm Bf Bp Bv ap np cp PL0 players f
  | 0 => find_zero Bm Bf Bp Bv ap np cp PL0 players
  | f + 1 => find_succ Bm Bf Bp Bv ap np cp PL0 players f hP hr hpl (hid (find_any Bm Bf Bp Bv ap np cp PL0 players hP hr hpl f))
set_option maxHeartbeats 1000000 in
theorem paired_any (ad ap : Option Addr) (n cap np cp : Nat) (players : List Int) (PL0 : List (List Int)) (w : World) (hP : players.Nodup) (hr : ∀ p ∈ players, 0 ≤ p ∧ p < 16) (hpl : players.length ≤ 16) (h : HeldL IntC w ad n cap players) (hp : HeldL IntsC w ap np cp PL0) :
    Calls Try.prog 39 #[.slice ad n cap, .slice ap np cp] w fun e w' => ∃ v, e = .returned (.tuple #[v, .bool (PL (metB PL0) players).isSome]) ∧ OwnL IntsC w.heap.size 38 w' v ((PL (metB PL0) players).getD []) ∧ Below w.heap.size w w' := by
  have hF := fun Bm Bf Bp Bv => hid (find_any Bm Bf Bp Bv ap np cp PL0 players hP hr hpl 16)
  have hmem := hid memU_small
  have hmm := @run_makeMap Try.prog
  clear hP hr
  go_enter Try.func39, Try.ntmps39
  go_wp2_with fail
  obtain ⟨W, eW⟩ : ∃ W, W = ((((w.alloc (.cells #[.slice ap np cp] 30)).alloc (.map #[] 0)).alloc (.cells #[.map (some (w.heap.size + 1))] 70)).alloc (.cells #[findV (w.heap.size + 1 + 1) w.heap.size (w.heap.size + 1 + 1 + 1)] 71)) := ⟨_, rfl⟩
  have bW : Below w.heap.size w W := by rw [eW]; exact ((((Below.refl _ w).alloc (Nat.le_refl _) _).alloc (by simp) _).alloc (by simp; omega) _).alloc (by simp; omega) _
  have h1 : Has W w.heap.size #[.slice ap np cp] 30 := by rw [eW]; exact (((Has.new w _ _).alloc _).alloc _).alloc _
  have h2 : Has W (w.heap.size + 1 + 1) #[.map (some (w.heap.size + 1))] 70 := by rw [eW]; exact (Has.newAt (by simp)).alloc _
  have h3 : Has W (w.heap.size + 1 + 1 + 1) #[findV (w.heap.size + 1 + 1) w.heap.size (w.heap.size + 1 + 1 + 1)] 71 := by rw [eW]; exact Has.newAt (by simp)
  have hM : MapAt W (w.heap.size + 1) 0 (fun _ => false) := by
    refine ⟨.map [], ?_, fun m => rfl⟩
    have h0 := World.ownsMap_made (H := Unit) (w.alloc (.cells #[.slice ap np cp] 30)) Try.prog 3 (plainElem Try.prog 4)
    rw [World.size_alloc] at h0
    rw [eW]
    exact (h0.alloc _).alloc _
  have hA : Agr (fun _ => True) w W := Agr.ofBelow' bW (Nat.le_refl _)
  have hE : FEnv (w.heap.size + 1) (w.heap.size + 1 + 1) w.heap.size (w.heap.size + 1 + 1 + 1) ap np cp PL0 W :=
    ⟨h2.cell (j := 0) rfl, h1.cell (j := 0) rfl, h3.cell (j := 0) rfl, Rests.move hp hA (fun k hk _ => by omega), ⟨by omega, by omega, by omega⟩⟩
  have hl : Rests (SliceOf IntC) (fun k => k ≠ w.heap.size + 1) W (.slice ad n cap) players := Rests.move h hA (fun k hk _ => by omega)
  show Calls _ _ _ ((((w.alloc (.cells #[.slice ap np cp] 30)).alloc (.map #[] 0)).alloc (.cells #[.map (some (w.heap.size + 1))] 70)).alloc (.cells #[findV (w.heap.size + 1 + 1) w.heap.size (w.heap.size + 1 + 1 + 1)] 71)) _
  rw [← eW]
  clear eW h1 h2 h3
  refine ((hF (w.heap.size + 1) (w.heap.size + 1 + 1) w.heap.size (w.heap.size + 1 + 1 + 1)).out players ad n cap 0 (fun _ => false) W hpl (List.Sublist.refl _) hl hE hM (fun m hm => by cases hm) (by have := hmem.out; omega)).mono ?_
  rintro e w1 ⟨v, rfl, own, hO, _, _, _, _, _⟩
  go_wp2
  go_ret2
  refine ⟨v, rfl, own.rebase bW.size, bW.trans ⟨hO.os, hO.tape, hO.output, hO.size, fun k hk => hO.block k (Nat.lt_of_lt_of_le hk bW.size) (by simp; omega)⟩⟩
end Go.Proofs.Ytkdfplnoldckgaa
