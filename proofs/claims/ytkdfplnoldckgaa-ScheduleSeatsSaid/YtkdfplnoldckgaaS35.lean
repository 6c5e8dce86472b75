/-
  The walk of the law ScheduleSeats.
-/
import Derived.Test.YtkdfplnoldckgaaRows
import Derived.Test.YtkdfplnoldckgaaSMem
import Derived.Test.YtkdfplnoldckgaaSPlain12
import Derived.Test.YtkdfplnoldckgaaS9
import Derived.Test.YtkdfplnoldckgaaS18
import Derived.Test.YtkdfplnoldckgaaS24
import Derived.Test.YtkdfplnoldckgaaS33
import Derived.WalkKit
import Derived.ProofKit
import Derived.OpenShut
import Derived.Outline
namespace Go.Proofs.Ytkdfplnoldckgaa
open Go.ChangeShapes Go.WideShapes Go.ChangeAt Go.RowKit

set_option maxRecDepth 20000 in
set_option maxHeartbeats 4000000 in
theorem seats_walk (p : Nat) (hp : p < 256) (w : World) :
    Calls Try.prog 9 #[.int .u8 p] w fun e w' => e = .returned (.bool true) ∧ Below w.heap.size w w' := by
  have hp0 : (0 : Int) ≤ p := by omega
  have hp1 : (p : Int) < 256 := by omega
  go_enter Try.func9, Try.ntmps9
  go_wp2_with fail
  obtain ⟨n, en⟩ : ∃ n : Nat, 2 + (p : Int) % 15 = n := ⟨2 + p % 15, by omega⟩
  have hn2 : 2 ≤ n := by omega
  have hn16 : n ≤ 16 := by omega
  rw [en]
  clear en
  have hn2' : (2 : Int) ≤ n := by omega
  have hn16' : (n : Int) ≤ 16 := by omega
  refine (robin_any _ _ _).mono ?_
  rintro e w1 ⟨v, c, rfl, own, hc, b1⟩
  rw [← (robin_two hn2 hn16).2] at hc
  subst hc
  have hM : Hid (Modest49 (robinL n 2)) := hid (robin_modest (s := 2) (by omega) (by omega) hn2 hn16)
  have hD : Hid (Modest49 (dblL (robinL n 2))) := hid (dbl_modest (by have := (robin_small (s := 2) (by omega) (by omega) hn2 hn16).1; exact Nat.le_trans this (by omega)) (robin_small (s := 2) (by omega) (by omega) hn2 hn16).2)
  have hB := hid (seats_any hn2 hn16)
  obtain ⟨L, eL⟩ : ∃ L, L = robinL n 2 := ⟨_, rfl⟩
  rw [← eL] at own hM hD hB
  clear eL
  obtain ⟨a1, c1, rfl, h1⟩ := own.slice
  obtain ⟨l1, el1⟩ : ∃ l1, l1 = L.length := ⟨_, rfl⟩
  rw [← el1] at h1 ⊢
  clear own el1
  go_wp2_with fail
  refine (double_any a1 l1 c1 L _ hM.out h1).mono ?_
  rintro e w2 ⟨v2, rfl, own2, b2⟩
  have b12 := b1.trans (b2.mono b1.size)
  obtain ⟨a2, c2, rfl, h2⟩ := own2.slice
  obtain ⟨D, eD⟩ : ∃ D, D = dblL L := ⟨_, rfl⟩
  rw [← eD] at h2 hD hB ⊢
  obtain ⟨l2, el2⟩ : ∃ l2, l2 = D.length := ⟨_, rfl⟩
  rw [← el2] at h2 ⊢
  clear own2 el2 eD b1 b2 h1 hM
  go_wp2_with fail
  refine (balance_any a2 l2 c2 D n 2 _ hD.out h2).mono ?_
  rintro e w3 ⟨v3, rfl, own3, b3⟩
  have b13 := b12.trans (b3.mono b12.size)
  rw [hB.out] at own3
  obtain ⟨a3, c3, rfl, h3⟩ := own3.slice
  rw [List.length_replicate] at h3 ⊢
  clear own3 h2 hD hB b12 b3
  obtain ⟨b, o, rfl⟩ := h3.head (by omega)
  go_wp2
  go_loop [8] (fun i => ∃ k : Nat, k ≤ n ∧ i = .int .i64 k) (fun i => n - (intOf i).toNat)
  case atStart => exact ⟨0, Nat.zero_le _, rfl⟩
  case round =>
    obtain ⟨k, hk, rfl⟩ := hrel
    by_cases hlt : k < n
    · have hk0 : (0 : Int) ≤ k := by omega
      have hkn : (k : Int) < n := by omega
      obtain ⟨ar, m, cr, hc, hR⟩ := h3.elem k hlt
      have e : (List.replicate n [(n : Int) - 1, (n : Int) - 1]).getD k [] = [(n : Int) - 1, (n : Int) - 1] := by
        rw [List.getD_eq_getElem?_getD, List.getElem?_replicate, if_pos hlt]; rfl
      rw [e] at hR
      obtain rfl : 2 = m := hR.len
      obtain ⟨b4, o4, rfl⟩ := hR.head (by omega)
      have x0 := hR.int 0 (by omega)
      have x1 := hR.int 1 (by omega)
      have hrle := hR.le
      have hrmx := hR.max
      rw [show [(n : Int) - 1, (n : Int) - 1].getD 0 0 = (n : Int) - 1 from rfl, Nat.add_zero] at x0
      rw [show [(n : Int) - 1, (n : Int) - 1].getD 1 0 = (n : Int) - 1 from rfl] at x1
      have hcl := h3.le
      have hcm := h3.max
      clear e hR h3
      go_wp2
      go_round
      case rel => exact ⟨k + 1, by omega, by go_num⟩
      case measure => simp [intOf]; omega
    · obtain rfl : k = n := by omega
      go_wp2_with fail
      refine (awake_any _).mono ?_
      rintro e w4 ⟨rfl, b4⟩
      have b14 := b13.trans (b4.mono b13.size)
      go_wp2
      go_ret
      exact ⟨rfl, b14⟩
end Go.Proofs.Ytkdfplnoldckgaa
