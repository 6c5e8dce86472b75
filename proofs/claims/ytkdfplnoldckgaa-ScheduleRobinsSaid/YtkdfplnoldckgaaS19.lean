/-
  The walk of the law ScheduleRobins.
-/
import Derived.Test.YtkdfplnoldckgaaRows
import Derived.Test.YtkdfplnoldckgaaSMem
import Derived.Test.YtkdfplnoldckgaaS1
import Derived.Test.YtkdfplnoldckgaaS6
import Derived.Test.YtkdfplnoldckgaaS9
import Derived.Test.YtkdfplnoldckgaaS18
import Derived.WalkKit
import Derived.ProofKit
import Derived.OpenShut
import Derived.Outline
namespace Go.Proofs.Ytkdfplnoldckgaa
open Go.ChangeShapes Go.WideShapes Go.ChangeAt Go.RowKit

theorem robins_any (n s : Int) (w : World) : Calls Try.prog 3 #[.int .i64 n, .int .i64 s] w fun e w' => e = .returned (.bool true) ∧ Below w.heap.size w w' := by
  go_enter Try.func3, Try.ntmps3
  go_wp2_with fail
  refine (robin_any n s _).mono ?_
  rintro e w1 ⟨v1, c1, rfl, own1, hc1, b1⟩
  obtain ⟨a1, p1, rfl, h1⟩ := own1.slice
  obtain ⟨l1, el1⟩ : ∃ l1, l1 = (robinL n s).length := ⟨_, rfl⟩
  rw [← el1] at h1 ⊢
  have Hc1 := hid hc1
  have Hel1 := hid el1
  clear own1 hc1 el1
  go_wp2_with fail
  refine (rrobin_any n s _).mono ?_
  rintro e w2 ⟨v2, c2, rfl, own2, hc2, b2⟩
  obtain rfl : c1 = c2 := Hc1.out.trans hc2.symm
  obtain ⟨a2, p2, rfl, h2⟩ := own2.slice
  rw [← Hel1.out] at h2 ⊢
  have h3 := h1.below b2 (Nat.le_refl _)
  have b12 := b1.trans (b2.mono b1.size)
  clear own2 hc2 h1 b1 b2
  go_wp2_with fail
  refine (same_any a1 a2 l1 l1 p1 p2 (robinL n s) _ h3 h2).mono ?_
  rintro e w3 ⟨rfl, q, hq⟩
  have b3 : Below w2.heap.size w2 w3 := by rw [hq]; exact ⟨rfl, rfl, rfl, Nat.le_refl _, fun _ _ => rfl⟩
  have b13 := b12.trans (b3.mono b12.size)
  clear hq b3 h2 h3 b12
  go_wp2_with fail
  refine (awake_any _).mono ?_
  rintro e w4 ⟨rfl, b4⟩
  have b14 := b13.trans (b4.mono b13.size)
  clear b13 b4
  go_wp2
  go_ret
  exact ⟨rfl, b14⟩
end Go.Proofs.Ytkdfplnoldckgaa
