/-
  The walks of with, met, has, met of the reference.
-/
import Derived.Test.YtkdfplnoldckgaaRows
import Derived.Test.YtkdfplnoldckgaaSMem
import Derived.Test.YtkdfplnoldckgaaSPlain3
import Derived.WalkKit
import Derived.ProofKit
import Derived.OpenShut
import Derived.Deep.QuietTactic
import Derived.BigQuiet
import Derived.Deep.DeepMust
import Derived.Outline
namespace Go.Proofs.Ytkdfplnoldckgaa
open Go.ChangeShapes Go.WideShapes Go.ChangeAt Go.RowKit

theorem ret_bool {a b : Bool} (h : a = b) : Ending.returned (.bool a) = .returned (.bool b) := by rw [h]
theorem with_none (ad : Option Addr) (cap : Nat) (p : Int) (w : World) :
    Calls Try.prog 49 #[.agg #[.slice ad 0 cap], .int .i64 p] w fun e w' => e = .returned (.bool (hasB [] p)) ∧ Below w.heap.size w w' := by
  rw [hasB_nil]
  go_enter Try.func49, Try.ntmps49
  go_wp2
  refine wp_loop_rounds 1 ?_
  rw [rounds_succ]
  go_wp2
  go_ret
  exact ⟨rfl, (Below.refl _ _).alloc (Nat.le_refl _) _⟩
theorem with_some (b o n cap : Nat) (l : List Int) (p : Int) (w : World) (h : HeldL IntC w (some ⟨b, o, none⟩) n cap l) :
    Calls Try.prog 49 #[.agg #[.slice (some ⟨b, o, none⟩) n cap], .int .i64 p] w fun e w' => e = .returned (.bool (hasB l p)) ∧ Below w.heap.size w w' := by
  have hle := h.le
  have hmx := h.max
  have hl := hid h.len
  have b1 : Below w.heap.size w (w.alloc (.cells #[.slice (some ⟨b, o, none⟩) n cap] 38)) := (Below.refl _ _).alloc (Nat.le_refl _) _
  have h1 := h.below b1 (Nat.le_refl _)
  go_enter Try.func49, Try.ntmps49
  go_wp2
  go_loop [10] (fun i => ∃ k : Nat, k ≤ n ∧ i = .int .i64 k ∧ Hid (hasB (l.take k) p = false)) (fun i => n - (intOf i).toNat)
  case atStart => exact ⟨0, Nat.zero_le _, rfl, hid rfl⟩
  case round =>
    obtain ⟨k, hk, rfl, hf⟩ := hrel
    by_cases hlt : k < n
    · have hc := h1.int k hlt
      have hk0 : (0 : Int) ≤ k := by omega
      have hkn : (k : Int) < n := by omega
      obtain ⟨x, ex⟩ : ∃ x, x = l.getD k 0 := ⟨_, rfl⟩
      rw [← ex] at hc
      have hst := hid (hasB_take l p k (by rw [hl.out]; exact hlt))
      have htr := hid (hasB_true l p k (by rw [hl.out]; exact hlt))
      have Hex := hid ex
      clear ex h1 h
      cases hxp : (x == p)
      · go_wp2
        go_round
        case rel => exact ⟨k + 1, by omega, by go_num, hid (by rw [hst.out, hf.out, ← Hex.out, hxp]; rfl)⟩
        case measure => simp [intOf]; omega
      · go_wp2
        go_ret
        exact ⟨ret_bool (htr.out (by rw [← Hex.out]; exact hxp)).symm, b1⟩
    · obtain rfl : k = n := by omega
      have hfa := hid (show hasB l p = false by rw [← hasB_all l p k (by rw [hl.out]; exact Nat.le_refl _)]; exact hf.out)
      go_wp2
      go_ret
      exact ⟨ret_bool hfa.out.symm, b1⟩
theorem with_any (ad : Option Addr) (n cap : Nat) (l : List Int) (p : Int) (w : World) (h : HeldL IntC w ad n cap l) :
    Calls Try.prog 49 #[.agg #[.slice ad n cap], .int .i64 p] w fun e w' => e = .returned (.bool (hasB l p)) ∧ Below w.heap.size w w' := by
  by_cases h0 : n = 0
  · subst h0
    obtain rfl : l = [] := List.eq_nil_of_length_eq_zero h.len
    exact with_none ad cap p w
  · obtain ⟨b, o, rfl⟩ := h.head (by omega)
    exact with_some b o n cap l p w h
/-- met of the program -/
theorem metOne_same (a c : Int) (l : List Int) (h : (a == c) = true) : metOne a c l = false := by unfold metOne; rw [h]; rfl
theorem metOne_a (a c : Int) (l : List Int) (h : hasB l a = false) : metOne a c l = false := by unfold metOne; rw [h]; simp
theorem metOne_c (a c : Int) (l : List Int) (h : hasB l c = false) : metOne a c l = false := by unfold metOne; rw [h]; simp
theorem metOne_yes (a c : Int) (l : List Int) (h : (a == c) = false) (h1 : hasB l a = true) (h2 : hasB l c = true) : metOne a c l = true := by unfold metOne; rw [h, h1, h2]; rfl
theorem met_none (ad : Option Addr) (cap : Nat) (a c : Int) (w : World) :
    Calls Try.prog 44 #[.slice ad 0 cap, .int .i64 a, .int .i64 c] w fun e w' => e = .returned (.bool (metB [] a c)) ∧ Below w.heap.size w w' := by
  rw [show metB [] a c = false from rfl]
  go_enter Try.func44, Try.ntmps44
  go_wp2
  refine wp_loop_rounds 1 ?_
  rw [rounds_succ]
  go_wp2
  go_ret
  exact ⟨rfl, Below.refl _ _⟩
set_option maxHeartbeats 1000000 in
theorem met_some (b o n cap : Nat) (L : List (List Int)) (a c : Int) (w : World) (h : HeldL IntsC w (some ⟨b, o, none⟩) n cap L) :
    Calls Try.prog 44 #[.slice (some ⟨b, o, none⟩) n cap, .int .i64 a, .int .i64 c] w fun e w' => e = .returned (.bool (metB L a c)) ∧ Below w.heap.size w w' := by
  have hle := h.le
  have hmx := h.max
  have hl := hid h.len
  go_enter Try.func44, Try.ntmps44
  go_wp2
  go_loopw [11] (fun i wr => ∃ k : Nat, k ≤ n ∧ i = .int .i64 k ∧ Below w.heap.size w wr ∧ Hid (metB (L.take k) a c = false)) (fun i _ => n - (intOf i).toNat)
  case atStart => exact ⟨0, Nat.zero_le _, rfl, Below.refl _ _, hid rfl⟩
  case round =>
    obtain ⟨k, hk, rfl, hb, hf⟩ := hrel
    by_cases hlt : k < n
    · obtain ⟨ae, me, ce, hc, hE⟩ := (h.below hb (Nat.le_refl _)).elem k hlt
      have hk0 : (0 : Int) ≤ k := by omega
      have hkn : (k : Int) < n := by omega
      obtain ⟨x, ex⟩ : ∃ x, x = L.getD k [] := ⟨_, rfl⟩
      rw [← ex] at hE
      have hst := hid (metB_take L a c k (by rw [hl.out]; exact hlt))
      have htr := hid (metB_true L a c k (by rw [hl.out]; exact hlt))
      rw [← ex] at hst htr
      have bs := hb.size
      have bW : Below wr.heap.size wr (wr.alloc (.cells #[.slice ae me ce] 38)) := (Below.refl _ _).alloc (Nat.le_refl _) _
      have hb1 := hb.alloc bs (.cells #[.slice ae me ce] 38)
      have hE1 := hE.below bW (Nat.le_refl _)
      have hp1 := (Has.new wr #[.slice ae me ce] 38).cell (j := 0) rfl
      have hp1l := (Has.new wr #[.slice ae me ce] 38).lt
      clear ex h hE bW
      cases hab : (a == c)
      · have hab2 : (a != c) = true := by simp [bne, hab]
        go_wp2_with fail
        refine (with_any ae me ce x a _ hE1).mono ?_
        rintro e w2 ⟨rfl, b2⟩
        have hb2 := hb1.trans (b2.mono (by simp; omega))
        have hE2 := hE1.below b2 (Nat.le_refl _)
        have hp2 := (b2.cell (p := ⟨wr.heap.size, 0, none⟩) hp1l).trans hp1
        clear hb hb1 hE1 b2
        cases hA : hasB x a
        · clear hE2 hp1 hc
          go_wp2
          go_roundw
          case rel => exact ⟨k + 1, by omega, by go_num, hb2, hid (by rw [hst.out, hf.out, metOne_a a c x hA]; rfl)⟩
          case measure => simp [intOf]; omega
        · go_wp2_with fail
          refine (with_any ae me ce x c _ hE2).mono ?_
          rintro e w3 ⟨rfl, b3⟩
          have hb3 := hb2.trans (b3.mono hb2.size)
          clear hb2 b3 hE2 hp2 hp1 hc
          cases hC : hasB x c
          · go_wp2
            go_roundw
            case rel => exact ⟨k + 1, by omega, by go_num, hb3, hid (by rw [hst.out, hf.out, metOne_c a c x hC]; rfl)⟩
            case measure => simp [intOf]; omega
          · go_wp2
            go_ret
            exact ⟨ret_bool (htr.out (metOne_yes a c x hab hA hC)).symm, hb3⟩
      · have hab2 : (a != c) = false := by simp [bne, hab]
        clear hE1 hb hp1
        go_wp2
        go_roundw
        case rel => exact ⟨k + 1, by omega, by go_num, hb1, hid (by rw [hst.out, hf.out, metOne_same a c x hab]; rfl)⟩
        case measure => simp [intOf]; omega
    · obtain rfl : k = n := by omega
      have hfa := hid (show metB L a c = false by rw [← List.take_of_length_le (show L.length ≤ k by rw [hl.out]; exact Nat.le_refl _)]; exact hf.out)
      go_wp2
      go_ret
      exact ⟨ret_bool hfa.out.symm, hb⟩
theorem met_any (ad : Option Addr) (n cap : Nat) (L : List (List Int)) (a c : Int) (w : World) (h : HeldL IntsC w ad n cap L) :
    Calls Try.prog 44 #[.slice ad n cap, .int .i64 a, .int .i64 c] w fun e w' => e = .returned (.bool (metB L a c)) ∧ Below w.heap.size w w' := by
  by_cases h0 : n = 0
  · subst h0
    obtain rfl : L = [] := List.eq_nil_of_length_eq_zero h.len
    exact met_none ad cap a c w
  · obtain ⟨b, o, rfl⟩ := h.head (by omega)
    exact met_some b o n cap L a c w h
end Go.Proofs.Ytkdfplnoldckgaa
