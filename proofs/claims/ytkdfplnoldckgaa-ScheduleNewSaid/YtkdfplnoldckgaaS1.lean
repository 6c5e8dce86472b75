/-
  The walks of Ints, SameRound and Same over two equal lists.
-/
import Derived.Test.YtkdfplnoldckgaaRows
import Derived.Test.YtkdfplnoldckgaaSMem
import Derived.WalkKit
import Derived.ProofKit
import Derived.OpenShut
import Derived.Deep.QuietTactic
import Derived.BigQuiet
import Derived.Outline
namespace Go.Proofs.Ytkdfplnoldckgaa
open Go.ChangeShapes Go.WideShapes Go.ChangeAt Go.RowKit

theorem ints_none (a1 a2 : Option Addr) (c1 c2 : Nat) (w : World) :
    Calls Try.prog 35 #[.slice a1 0 c1, .slice a2 0 c2] w fun e w' => e = .returned (.bool true) ∧ ∃ q, w' = w.drewN q := by
  go_enter Try.func35, Try.ntmps35
  go_wp2
  refine wp_loop_rounds 1 ?_
  rw [rounds_succ]
  go_wp2
  go_ret
  exact ⟨rfl, 0, rfl⟩
theorem ints_some (b1 o1 b2 o2 : Nat) (n c1 c2 : Nat) (l : List Int) (w : World) (hm : (n : Int) ≤ 9223372036854775807) (h1 : HeldL IntC w (some ⟨b1, o1, none⟩) n c1 l) (h2 : HeldL IntC w (some ⟨b2, o2, none⟩) n c2 l) :
    Calls Try.prog 35 #[.slice (some ⟨b1, o1, none⟩) n c1, .slice (some ⟨b2, o2, none⟩) n c2] w fun e w' => e = .returned (.bool true) ∧ ∃ q, w' = w.drewN q := by
  go_enter Try.func35, Try.ntmps35
  go_wp2
  go_loopw [5, 13] (fun _ i wr => ∃ k : Nat, k ≤ n ∧ i = .int .i64 k ∧ ∃ q, wr = w.drewN q) (fun _ i _ => n - (intOf i).toNat)
  case atStart => exact ⟨0, Nat.zero_le _, rfl, 0, rfl⟩
  case round =>
    obtain ⟨k, hk, rfl, q0, hw⟩ := hrel
    have hb : Below w.heap.size w wr := by rw [hw]; exact ⟨rfl, rfl, rfl, Nat.le_refl _, fun _ _ => rfl⟩
    replace h1 := h1.below hb (Nat.le_refl _)
    replace h2 := h2.below hb (Nat.le_refl _)
    have Hw := hid hw
    clear hw hb
    by_cases hlt : k < n
    · have x1 := h1.int k hlt
      have x2 := h2.int k hlt
      clear h1 h2
      have hk0 : (0 : Int) ≤ k := by omega
      have hkn : (k : Int) < n := by omega
      go_wp2
      go_quiet (fail)
      go_wp2
      go_roundw
      case rel => exact ⟨k + 1, by omega, by go_num, q0 + nq, by rw [Hw.out, World.drewN_drewN]⟩
      case measure => simp [intOf]; omega
    · go_wp2
      go_ret
      exact ⟨rfl, q0, Hw.out⟩
theorem ints_any (a1 a2 : Option Addr) (n m c1 c2 : Nat) (l : List Int) (w : World) (h1 : HeldL IntC w a1 n c1 l) (h2 : HeldL IntC w a2 m c2 l) :
    Calls Try.prog 35 #[.slice a1 n c1, .slice a2 m c2] w fun e w' => e = .returned (.bool true) ∧ ∃ q, w' = w.drewN q := by
  obtain rfl : n = m := h1.len.symm.trans h2.len
  by_cases h0 : n = 0
  · rw [h0]; exact ints_none a1 a2 c1 c2 w
  · obtain ⟨b1, o1, rfl⟩ := h1.head (by omega)
    obtain ⟨b2, o2, rfl⟩ := h2.head (by omega)
    exact ints_some b1 o1 b2 o2 n c1 c2 l w (by have := h1.le; have := h1.max; omega) h1 h2

theorem round_none (a1 a2 : Option Addr) (c1 c2 : Nat) (w : World) :
    Calls Try.prog 17 #[.slice a1 0 c1, .slice a2 0 c2] w fun e w' => e = .returned (.bool true) ∧ ∃ q, w' = w.drewN q := by
  go_enter Try.func17, Try.ntmps17
  go_wp2
  refine wp_loop_rounds 1 ?_
  rw [rounds_succ]
  go_wp2
  go_ret
  exact ⟨rfl, 0, rfl⟩
theorem round_some (b1 o1 b2 o2 : Nat) (n c1 c2 : Nat) (l : List (List Int)) (w : World) (hm : (n : Int) ≤ 9223372036854775807) (h1 : HeldL IntsC w (some ⟨b1, o1, none⟩) n c1 l) (h2 : HeldL IntsC w (some ⟨b2, o2, none⟩) n c2 l) :
    Calls Try.prog 17 #[.slice (some ⟨b1, o1, none⟩) n c1, .slice (some ⟨b2, o2, none⟩) n c2] w fun e w' => e = .returned (.bool true) ∧ ∃ q, w' = w.drewN q := by
  go_enter Try.func17, Try.ntmps17
  go_wp2
  go_loopw [5] (fun i wr => ∃ k : Nat, k ≤ n ∧ i = .int .i64 k ∧ ∃ q, wr = w.drewN q) (fun i _ => n - (intOf i).toNat)
  case atStart => exact ⟨0, Nat.zero_le _, rfl, 0, rfl⟩
  case round =>
    obtain ⟨k, hk, rfl, q0, hw⟩ := hrel
    have hb : Below w.heap.size w wr := by rw [hw]; exact ⟨rfl, rfl, rfl, Nat.le_refl _, fun _ _ => rfl⟩
    replace h1 := h1.below hb (Nat.le_refl _)
    replace h2 := h2.below hb (Nat.le_refl _)
    have Hw := hid hw
    clear hw hb
    by_cases hlt : k < n
    · obtain ⟨x1, n1, d1, e1, g1⟩ := h1.elem k hlt
      obtain ⟨x2, n2, d2, e2, g2⟩ := h2.elem k hlt
      have hk0 : (0 : Int) ≤ k := by omega
      have hkn : (k : Int) < n := by omega
      clear h1 h2
      go_wp2
      go_quiet ((go_at_call 35; exact Calls.quiet_of (ints_any _ _ _ _ _ _ (l.getD k []) _ (g1.below ⟨rfl, rfl, rfl, Nat.le_refl _, fun _ _ => rfl⟩ (Nat.le_refl _)) (g2.below ⟨rfl, rfl, rfl, Nat.le_refl _, fun _ _ => rfl⟩ (Nat.le_refl _)))))
      go_wp2
      go_roundw
      case rel => exact ⟨k + 1, by omega, by go_num, q0 + nq, by rw [Hw.out, World.drewN_drewN]⟩
      case measure => simp [intOf]; omega
    · go_wp2
      go_ret
      exact ⟨rfl, q0, Hw.out⟩
theorem round_any (a1 a2 : Option Addr) (n m c1 c2 : Nat) (l : List (List Int)) (w : World) (h1 : HeldL IntsC w a1 n c1 l) (h2 : HeldL IntsC w a2 m c2 l) :
    Calls Try.prog 17 #[.slice a1 n c1, .slice a2 m c2] w fun e w' => e = .returned (.bool true) ∧ ∃ q, w' = w.drewN q := by
  obtain rfl : n = m := h1.len.symm.trans h2.len
  by_cases h0 : n = 0
  · rw [h0]; exact round_none a1 a2 c1 c2 w
  · obtain ⟨b1, o1, rfl⟩ := h1.head (by omega)
    obtain ⟨b2, o2, rfl⟩ := h2.head (by omega)
    exact round_some b1 o1 b2 o2 n c1 c2 l w (by have := h1.le; have := h1.max; omega) h1 h2

theorem same_none (a1 a2 : Option Addr) (c1 c2 : Nat) (w : World) :
    Calls Try.prog 12 #[.slice a1 0 c1, .slice a2 0 c2] w fun e w' => e = .returned (.bool true) ∧ ∃ q, w' = w.drewN q := by
  go_enter Try.func12, Try.ntmps12
  go_wp2
  refine wp_loop_rounds 1 ?_
  rw [rounds_succ]
  go_wp2
  go_ret
  exact ⟨rfl, 0, rfl⟩
theorem same_some (b1 o1 b2 o2 : Nat) (n c1 c2 : Nat) (l : List (List (List Int))) (w : World) (hm : (n : Int) ≤ 9223372036854775807) (h1 : HeldL RoundC w (some ⟨b1, o1, none⟩) n c1 l) (h2 : HeldL RoundC w (some ⟨b2, o2, none⟩) n c2 l) :
    Calls Try.prog 12 #[.slice (some ⟨b1, o1, none⟩) n c1, .slice (some ⟨b2, o2, none⟩) n c2] w fun e w' => e = .returned (.bool true) ∧ ∃ q, w' = w.drewN q := by
  go_enter Try.func12, Try.ntmps12
  go_wp2
  go_loopw [5] (fun i wr => ∃ k : Nat, k ≤ n ∧ i = .int .i64 k ∧ ∃ q, wr = w.drewN q) (fun i _ => n - (intOf i).toNat)
  case atStart => exact ⟨0, Nat.zero_le _, rfl, 0, rfl⟩
  case round =>
    obtain ⟨k, hk, rfl, q0, hw⟩ := hrel
    have hb : Below w.heap.size w wr := by rw [hw]; exact ⟨rfl, rfl, rfl, Nat.le_refl _, fun _ _ => rfl⟩
    replace h1 := h1.below hb (Nat.le_refl _)
    replace h2 := h2.below hb (Nat.le_refl _)
    have Hw := hid hw
    clear hw hb
    by_cases hlt : k < n
    · obtain ⟨x1, n1, d1, e1, g1⟩ := h1.elem k hlt
      obtain ⟨x2, n2, d2, e2, g2⟩ := h2.elem k hlt
      have hk0 : (0 : Int) ≤ k := by omega
      have hkn : (k : Int) < n := by omega
      clear h1 h2
      go_wp2
      go_quiet ((go_at_call 17; exact Calls.quiet_of (round_any _ _ _ _ _ _ (l.getD k []) _ (g1.below ⟨rfl, rfl, rfl, Nat.le_refl _, fun _ _ => rfl⟩ (Nat.le_refl _)) (g2.below ⟨rfl, rfl, rfl, Nat.le_refl _, fun _ _ => rfl⟩ (Nat.le_refl _)))))
      go_wp2
      go_roundw
      case rel => exact ⟨k + 1, by omega, by go_num, q0 + nq, by rw [Hw.out, World.drewN_drewN]⟩
      case measure => simp [intOf]; omega
    · go_wp2
      go_ret
      exact ⟨rfl, q0, Hw.out⟩
theorem same_any (a1 a2 : Option Addr) (n m c1 c2 : Nat) (l : List (List (List Int))) (w : World) (h1 : HeldL RoundC w a1 n c1 l) (h2 : HeldL RoundC w a2 m c2 l) :
    Calls Try.prog 12 #[.slice a1 n c1, .slice a2 m c2] w fun e w' => e = .returned (.bool true) ∧ ∃ q, w' = w.drewN q := by
  obtain rfl : n = m := h1.len.symm.trans h2.len
  by_cases h0 : n = 0
  · rw [h0]; exact same_none a1 a2 c1 c2 w
  · obtain ⟨b1, o1, rfl⟩ := h1.head (by omega)
    obtain ⟨b2, o2, rfl⟩ := h2.head (by omega)
    exact same_some b1 o1 b2 o2 n c1 c2 l w (by have := h1.le; have := h1.max; omega) h1 h2
end Go.Proofs.Ytkdfplnoldckgaa
