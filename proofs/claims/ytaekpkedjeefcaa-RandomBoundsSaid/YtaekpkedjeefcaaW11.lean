/-
  The walk of the statement RandomBounds.
-/
import Derived.Test.YtaekpkedjeefcaaRows
import Derived.Test.YtaekpkedjeefcaaPlain3
import Derived.Test.YtaekpkedjeefcaaHeap
import Derived.Test.YtaekpkedjeefcaaW1
import Derived.Test.YtaekpkedjeefcaaW6
import Derived.Test.YtaekpkedjeefcaaW7
import Derived.WalkKit
import Derived.ProofKit
import Derived.OpenShut
import Derived.Outline
namespace Go.Proofs.Ytaekpkedjeefcaa
open Go.ChangeShapes Go.WideShapes Go.ChangeAt Go.RowKit

theorem below_lo (s n : Int) (w : World) (h : n < 1) :
    Calls Try.prog 14 #[.agg #[.int .u64 s], .int .i64 n] w fun e w' => e = .returned (.tuple #[.agg #[.int .u64 (belowS s n)], .int .i64 0]) ∧ Below w.heap.size w w' := by
  have h1 := below_any s n w (by omega)
  rwa [show belowX s n = 0 from by unfold belowX; rw [if_pos h]] at h1
def BelowHi (s n : Int) (w : World) (e : Ending) (w' : World) : Prop :=
  ∃ x : Int, 0 ≤ x ∧ x < n ∧ e = .returned (.tuple #[.agg #[.int .u64 (belowS s n)], .int .i64 x]) ∧ Below w.heap.size w w'
theorem below_hi (s n : Int) (w : World) (h : 1 ≤ n) (hm : n ≤ 9223372036854775807) :
    Calls Try.prog 14 #[.agg #[.int .u64 s], .int .i64 n] w (BelowHi s n w) :=
  (below_any s n w hm).mono fun _ _ ⟨he, hw⟩ => ⟨belowX s n, belowX_nonneg _ _, belowX_lt _ _ h, he, hw⟩
theorem pick_no (s : Int) (ad : Option Addr) (n cap : Nat) (ws : List Int) (w : World) (hm : n ≤ 9223372036854775807) (hlen : ws.length = n) (hr : Row w ad ws) (hn : 4096 < ws.length ∨ someW ws = false) :
    Calls Try.prog 22 #[.agg #[.int .u64 s], .slice ad n cap] w fun e w' => e = .returned (.tuple #[.agg #[.int .u64 (pickS s ws)], .int .i64 (-1)]) ∧ Below w.heap.size w w' := by
  have h := pick_any s ad n cap ws w hm hlen hr
  rwa [pickX_none s ws hn] at h
def PickYes (s : Int) (n : Nat) (ws : List Int) (w : World) (e : Ending) (w' : World) : Prop :=
  ∃ k : Nat, k < n ∧ Hid (0 < ws.getD k 0) ∧ e = .returned (.tuple #[.agg #[.int .u64 (pickS s ws)], .int .i64 k]) ∧ Below w.heap.size w w'
theorem pick_yes (s : Int) (ad : Option Addr) (n cap : Nat) (ws : List Int) (w : World) (hm : n ≤ 4096) (hlen : ws.length = n) (hr : Row w ad ws) (hn : someW ws = true) :
    Calls Try.prog 22 #[.agg #[.int .u64 s], .slice ad n cap] w (PickYes s n ws w) := by
  obtain ⟨k, h1, h2, h3⟩ := pickX_some s ws (by omega) hn
  have h := pick_any s ad n cap ws w (by omega) hlen hr
  rw [h1] at h
  exact h.mono fun _ _ ⟨he, hw⟩ => ⟨k, by omega, hid h3, he, hw⟩

theorem bounds_many (s n : Int) (ad : Option Addr) (N cap : Nat) (w : World) (hN : 5000 < N) (hm : N ≤ 9223372036854775807) :
    Calls Try.prog 8 #[.int .u64 s, .int .i64 n, .slice ad N cap] w fun e w' => e = .returned (.bool true) ∧ Below w.heap.size w w' := by
  go_enter Try.func8, Try.ntmps8
  go_wp2_with fail
  refine (awake_any _).mono ?_
  rintro e w1 ⟨rfl, hb1⟩
  have B1 : Below w.heap.size w w1 := Below.trans (by repeat' (first | with_reducible exact rfl | with_reducible exact Below.refl _ _ | with_reducible refine Below.drew ?_ | with_reducible refine Below.alloc ?_ ?_ _ | with_reducible refine bset ?_ ?_ _ | omega | (simp <;> omega))) (hb1.mono (by first | omega | (simp <;> omega)))
  have hz1 := B1.size
  clear hb1
  go_wp2_with fail
  go_ret
  exact ⟨rfl, (by repeat' (first | with_reducible exact B1 | with_reducible exact Below.refl _ _ | with_reducible refine Below.drew ?_ | with_reducible refine Below.alloc ?_ ?_ _ | with_reducible refine bset ?_ ?_ _ | omega | (simp <;> omega)))⟩

set_option maxHeartbeats 1000000 in
theorem bounds_big_lo (s n : Int) (ad : Option Addr) (N cap : Nat) (ws : List Int) (w : World) (h1 : n < 1) (hN : 4096 < N) (hN2 : N ≤ 5000) (hlen : Hid (ws.length = N)) (hr : Row w ad ws) :
    Calls Try.prog 8 #[.int .u64 s, .int .i64 n, .slice ad N cap] w fun e w' => e = .returned (.bool true) ∧ Below w.heap.size w w' := by
  go_enter Try.func8, Try.ntmps8
  go_wp2_with fail
  refine (below_lo _ _ _ h1).mono ?_
  rintro e w1 ⟨rfl, hb1⟩
  have B1 : Below w.heap.size w w1 := Below.trans (by repeat' (first | with_reducible exact rfl | with_reducible exact Below.refl _ _ | with_reducible refine Below.drew ?_ | with_reducible refine Below.alloc ?_ ?_ _ | with_reducible refine bset ?_ ?_ _ | omega | (simp <;> omega))) (hb1.mono (by first | omega | (simp <;> omega)))
  have hz1 := B1.size
  clear hb1
  go_wp2_with fail
  refine wp_loop_rounds 1 ?_
  rw [rounds_succ]
  go_wp2_with fail
  refine (pick_no _ _ _ _ ws _ (by omega) hlen.out (hr.below (by repeat' (first | with_reducible exact B1 | with_reducible exact Below.refl _ _ | with_reducible refine Below.drew ?_ | with_reducible refine Below.alloc ?_ ?_ _ | with_reducible refine bset ?_ ?_ _ | omega | (simp <;> omega))) (Nat.le_refl _)) (Or.inl (by rw [hlen.out]; exact hN))).mono ?_
  rintro e w2 ⟨rfl, hb2⟩
  have B2 : Below w.heap.size w w2 := Below.trans (by repeat' (first | with_reducible exact B1 | with_reducible exact Below.refl _ _ | with_reducible refine Below.drew ?_ | with_reducible refine Below.alloc ?_ ?_ _ | with_reducible refine bset ?_ ?_ _ | omega | (simp <;> omega))) (hb2.mono (by first | omega | (simp <;> omega)))
  have hz2 := B2.size
  clear hb2 B1
  go_wp2_with fail
  refine (awake_any _).mono ?_
  rintro e w3 ⟨rfl, hb3⟩
  have B3 : Below w.heap.size w w3 := Below.trans (by repeat' (first | with_reducible exact B2 | with_reducible exact Below.refl _ _ | with_reducible refine Below.drew ?_ | with_reducible refine Below.alloc ?_ ?_ _ | with_reducible refine bset ?_ ?_ _ | omega | (simp <;> omega))) (hb3.mono (by first | omega | (simp <;> omega)))
  have hz3 := B3.size
  clear hb3 B2
  go_wp2_with fail
  go_ret
  exact ⟨rfl, (by repeat' (first | with_reducible exact B3 | with_reducible exact Below.refl _ _ | with_reducible refine Below.drew ?_ | with_reducible refine Below.alloc ?_ ?_ _ | with_reducible refine bset ?_ ?_ _ | omega | (simp <;> omega)))⟩

set_option maxHeartbeats 1000000 in
theorem bounds_zero_lo (s n : Int) (ad : Option Addr) (cap : Nat) (w : World) (h1 : n < 1) (hr : Row w ad []) :
    Calls Try.prog 8 #[.int .u64 s, .int .i64 n, .slice ad 0 cap] w fun e w' => e = .returned (.bool true) ∧ Below w.heap.size w w' := by
  go_enter Try.func8, Try.ntmps8
  go_wp2_with fail
  refine (below_lo _ _ _ h1).mono ?_
  rintro e w1 ⟨rfl, hb1⟩
  have B1 : Below w.heap.size w w1 := Below.trans (by repeat' (first | with_reducible exact rfl | with_reducible exact Below.refl _ _ | with_reducible refine Below.drew ?_ | with_reducible refine Below.alloc ?_ ?_ _ | with_reducible refine bset ?_ ?_ _ | omega | (simp <;> omega))) (hb1.mono (by first | omega | (simp <;> omega)))
  have hz1 := B1.size
  clear hb1
  go_wp2_with fail
  refine wp_loop_rounds 1 ?_
  rw [rounds_succ]
  go_wp2_with fail
  refine (pick_no _ _ 0 _ [] _ (by omega) rfl (hr.below (by repeat' (first | with_reducible exact B1 | with_reducible exact Below.refl _ _ | with_reducible refine Below.drew ?_ | with_reducible refine Below.alloc ?_ ?_ _ | with_reducible refine bset ?_ ?_ _ | omega | (simp <;> omega))) (Nat.le_refl _)) (Or.inr rfl)).mono ?_
  rintro e w2 ⟨rfl, hb2⟩
  have B2 : Below w.heap.size w w2 := Below.trans (by repeat' (first | with_reducible exact B1 | with_reducible exact Below.refl _ _ | with_reducible refine Below.drew ?_ | with_reducible refine Below.alloc ?_ ?_ _ | with_reducible refine bset ?_ ?_ _ | omega | (simp <;> omega))) (hb2.mono (by first | omega | (simp <;> omega)))
  have hz2 := B2.size
  clear hb2 B1
  go_wp2_with fail
  refine (awake_any _).mono ?_
  rintro e w3 ⟨rfl, hb3⟩
  have B3 : Below w.heap.size w w3 := Below.trans (by repeat' (first | with_reducible exact B2 | with_reducible exact Below.refl _ _ | with_reducible refine Below.drew ?_ | with_reducible refine Below.alloc ?_ ?_ _ | with_reducible refine bset ?_ ?_ _ | omega | (simp <;> omega))) (hb3.mono (by first | omega | (simp <;> omega)))
  have hz3 := B3.size
  clear hb3 B2
  go_wp2_with fail
  go_ret
  exact ⟨rfl, (by repeat' (first | with_reducible exact B3 | with_reducible exact Below.refl _ _ | with_reducible refine Below.drew ?_ | with_reducible refine Below.alloc ?_ ?_ _ | with_reducible refine bset ?_ ?_ _ | omega | (simp <;> omega)))⟩

set_option maxRecDepth 100000 in
set_option maxHeartbeats 1000000 in
theorem bounds_few_lo (s n : Int) (b o : Nat) (N cap : Nat) (ws : List Int) (w : World) (h1 : n < 1) (hN : 0 < N) (hN2 : N ≤ 4096) (hlen : Hid (ws.length = N)) (hr : Row w (some ⟨b, o, none⟩) ws) :
    Calls Try.prog 8 #[.int .u64 s, .int .i64 n, .slice (some ⟨b, o, none⟩) N cap] w fun e w' => e = .returned (.bool true) ∧ Below w.heap.size w w' := by
  go_enter Try.func8, Try.ntmps8
  go_wp2_with fail
  refine (below_lo _ _ _ h1).mono ?_
  rintro e w1 ⟨rfl, hb1⟩
  have B1 : Below w.heap.size w w1 := Below.trans (by repeat' (first | with_reducible exact rfl | with_reducible exact Below.refl _ _ | with_reducible refine Below.drew ?_ | with_reducible refine Below.alloc ?_ ?_ _ | with_reducible refine bset ?_ ?_ _ | omega | (simp <;> omega))) (hb1.mono (by first | omega | (simp <;> omega)))
  have hz1 := B1.size
  clear hb1
  go_wp2_with fail
  obtain ⟨wA, ewA⟩ : ∃ wA, wA = w1.alloc (.cells #[.int .u64 (belowS s n)] 24) := ⟨_, rfl⟩
  rw [← ewA]
  have BA : Below w.heap.size w wA := by rw [ewA]; exact (by repeat' (first | with_reducible exact B1 | with_reducible exact Below.refl _ _ | with_reducible refine Below.drew ?_ | with_reducible refine Below.alloc ?_ ?_ _ | with_reducible refine bset ?_ ?_ _ | omega | (simp <;> omega)))
  have hrA := hr.below BA (Nat.le_refl _)
  have hzA := BA.size
  clear ewA B1 hz1
  go_loop [9, 10] (fun t i => ∃ k : Nat, k ≤ N ∧ i = .int .i64 k ∧ t = .bool (someW (ws.take k))) (fun _ i => N - (intOf i).toNat)
  case atStart => exact ⟨0, Nat.zero_le _, rfl, rfl⟩
  case round =>
    obtain ⟨k, hk, rfl, rfl⟩ := hrel
    by_cases hlt : k < N
    · obtain ⟨v, hv, hcv⟩ := hrA.at k (by rw [hlen.out]; exact hlt)
      have hst := someW_take ws k (by rw [hlen.out]; exact hlt)
      rw [hv.out] at hst
      have Hst := hid hst
      clear hst
      cases hsw : someW (ws.take k)
      · have Hsw := hid hsw
        clear hsw
        by_cases hv0 : 0 < v
        · go_wp2
          go_round
          case rel => exact ⟨k + 1, by omega, by go_num, by rw [Hst.out, Hsw.out]; simp [hv0]⟩
          case measure => simp [intOf]; omega
        · go_wp2
          go_round
          case rel => exact ⟨k + 1, by omega, by go_num, by rw [Hst.out, Hsw.out]; simp; omega⟩
          case measure => simp [intOf]; omega
      · have Hsw := hid hsw
        clear hsw
        go_wp2
        go_round
        case rel => exact ⟨k + 1, by omega, by go_num, by rw [Hst.out, Hsw.out]; rfl⟩
        case measure => simp [intOf]; omega
    · have hfull : ws.take k = ws := List.take_of_length_le (by rw [hlen.out]; omega)
      rw [hfull]
      clear hfull
      cases hsw : someW ws
      · have Hsw := hid hsw
        clear hsw
        go_wp2_with fail
        refine (pick_no _ _ _ _ ws _ (by omega) hlen.out hrA (Or.inr Hsw.out)).mono ?_
        rintro e w11 ⟨rfl, hb11⟩
        have B11 : Below w.heap.size w w11 := Below.trans (by repeat' (first | with_reducible exact BA | with_reducible exact Below.refl _ _ | with_reducible refine Below.drew ?_ | with_reducible refine Below.alloc ?_ ?_ _ | with_reducible refine bset ?_ ?_ _ | omega | (simp <;> omega))) (hb11.mono (by first | omega | (simp <;> omega)))
        have hz11 := B11.size
        clear hb11 BA
        go_wp2_with fail
        refine (awake_any _).mono ?_
        rintro e w12 ⟨rfl, hb12⟩
        have B12 : Below w.heap.size w w12 := Below.trans (by repeat' (first | with_reducible exact B11 | with_reducible exact Below.refl _ _ | with_reducible refine Below.drew ?_ | with_reducible refine Below.alloc ?_ ?_ _ | with_reducible refine bset ?_ ?_ _ | omega | (simp <;> omega))) (hb12.mono (by first | omega | (simp <;> omega)))
        have hz12 := B12.size
        clear hb12 B11
        go_wp2_with fail
        go_ret
        exact ⟨rfl, (by repeat' (first | with_reducible exact B12 | with_reducible exact Below.refl _ _ | with_reducible refine Below.drew ?_ | with_reducible refine Below.alloc ?_ ?_ _ | with_reducible refine bset ?_ ?_ _ | omega | (simp <;> omega)))⟩
      · have Hsw := hid hsw
        clear hsw
        go_wp2_with fail
        refine (pick_yes _ _ _ _ ws _ hN2 hlen.out hrA Hsw.out).mono ?_
        rintro e w11 ⟨j, hj, hjp, rfl, hb11⟩
        have B11 : Below w.heap.size w w11 := Below.trans (by repeat' (first | with_reducible exact BA | with_reducible exact Below.refl _ _ | with_reducible refine Below.drew ?_ | with_reducible refine Below.alloc ?_ ?_ _ | with_reducible refine bset ?_ ?_ _ | omega | (simp <;> omega))) (hb11.mono (by first | omega | (simp <;> omega)))
        have hz11 := B11.size
        clear hb11 BA
        have hrB := hr.below B11 (Nat.le_refl _)
        obtain ⟨x2, hx2', hcx2⟩ := hrB.at j (by rw [hlen.out]; exact hj)
        have hbl := lt_of_cell hcx2
        have hxp : 0 < x2 := by have := hjp.out; rw [hx2'.out] at this; exact this
        go_wp2_with fail
        refine (awake_any _).mono ?_
        rintro e w12 ⟨rfl, hb12⟩
        have B12 : Below w.heap.size w w12 := Below.trans (by repeat' (first | with_reducible exact B11 | with_reducible exact Below.refl _ _ | with_reducible refine Below.drew ?_ | with_reducible refine Below.alloc ?_ ?_ _ | with_reducible refine bset ?_ ?_ _ | omega | (simp <;> omega))) (hb12.mono (by first | omega | (simp <;> omega)))
        have hz12 := B12.size
        clear hb12 B11
        go_wp2_with fail
        go_ret
        exact ⟨rfl, (by repeat' (first | with_reducible exact B12 | with_reducible exact Below.refl _ _ | with_reducible refine Below.drew ?_ | with_reducible refine Below.alloc ?_ ?_ _ | with_reducible refine bset ?_ ?_ _ | omega | (simp <;> omega)))⟩

set_option maxHeartbeats 1000000 in
theorem bounds_big_hi (s n : Int) (ad : Option Addr) (N cap : Nat) (ws : List Int) (w : World) (h1 : 1 ≤ n) (hn : n ≤ 9223372036854775807) (hN : 4096 < N) (hN2 : N ≤ 5000) (hlen : Hid (ws.length = N)) (hr : Row w ad ws) :
    Calls Try.prog 8 #[.int .u64 s, .int .i64 n, .slice ad N cap] w fun e w' => e = .returned (.bool true) ∧ Below w.heap.size w w' := by
  go_enter Try.func8, Try.ntmps8
  go_wp2_with fail
  refine (below_hi _ _ _ h1 hn).mono ?_
  rintro e w1 ⟨x, hx1, hx2, rfl, hb1⟩
  have B1 : Below w.heap.size w w1 := Below.trans (by repeat' (first | with_reducible exact rfl | with_reducible exact Below.refl _ _ | with_reducible refine Below.drew ?_ | with_reducible refine Below.alloc ?_ ?_ _ | with_reducible refine bset ?_ ?_ _ | omega | (simp <;> omega))) (hb1.mono (by first | omega | (simp <;> omega)))
  have hz1 := B1.size
  clear hb1
  go_wp2_with fail
  refine wp_loop_rounds 1 ?_
  rw [rounds_succ]
  go_wp2_with fail
  refine (pick_no _ _ _ _ ws _ (by omega) hlen.out (hr.below (by repeat' (first | with_reducible exact B1 | with_reducible exact Below.refl _ _ | with_reducible refine Below.drew ?_ | with_reducible refine Below.alloc ?_ ?_ _ | with_reducible refine bset ?_ ?_ _ | omega | (simp <;> omega))) (Nat.le_refl _)) (Or.inl (by rw [hlen.out]; exact hN))).mono ?_
  rintro e w2 ⟨rfl, hb2⟩
  have B2 : Below w.heap.size w w2 := Below.trans (by repeat' (first | with_reducible exact B1 | with_reducible exact Below.refl _ _ | with_reducible refine Below.drew ?_ | with_reducible refine Below.alloc ?_ ?_ _ | with_reducible refine bset ?_ ?_ _ | omega | (simp <;> omega))) (hb2.mono (by first | omega | (simp <;> omega)))
  have hz2 := B2.size
  clear hb2 B1
  go_wp2_with fail
  refine (awake_any _).mono ?_
  rintro e w3 ⟨rfl, hb3⟩
  have B3 : Below w.heap.size w w3 := Below.trans (by repeat' (first | with_reducible exact B2 | with_reducible exact Below.refl _ _ | with_reducible refine Below.drew ?_ | with_reducible refine Below.alloc ?_ ?_ _ | with_reducible refine bset ?_ ?_ _ | omega | (simp <;> omega))) (hb3.mono (by first | omega | (simp <;> omega)))
  have hz3 := B3.size
  clear hb3 B2
  go_wp2_with fail
  go_ret
  exact ⟨rfl, (by repeat' (first | with_reducible exact B3 | with_reducible exact Below.refl _ _ | with_reducible refine Below.drew ?_ | with_reducible refine Below.alloc ?_ ?_ _ | with_reducible refine bset ?_ ?_ _ | omega | (simp <;> omega)))⟩

set_option maxHeartbeats 1000000 in
theorem bounds_zero_hi (s n : Int) (ad : Option Addr) (cap : Nat) (w : World) (h1 : 1 ≤ n) (hn : n ≤ 9223372036854775807) (hr : Row w ad []) :
    Calls Try.prog 8 #[.int .u64 s, .int .i64 n, .slice ad 0 cap] w fun e w' => e = .returned (.bool true) ∧ Below w.heap.size w w' := by
  go_enter Try.func8, Try.ntmps8
  go_wp2_with fail
  refine (below_hi _ _ _ h1 hn).mono ?_
  rintro e w1 ⟨x, hx1, hx2, rfl, hb1⟩
  have B1 : Below w.heap.size w w1 := Below.trans (by repeat' (first | with_reducible exact rfl | with_reducible exact Below.refl _ _ | with_reducible refine Below.drew ?_ | with_reducible refine Below.alloc ?_ ?_ _ | with_reducible refine bset ?_ ?_ _ | omega | (simp <;> omega))) (hb1.mono (by first | omega | (simp <;> omega)))
  have hz1 := B1.size
  clear hb1
  go_wp2_with fail
  refine wp_loop_rounds 1 ?_
  rw [rounds_succ]
  go_wp2_with fail
  refine (pick_no _ _ 0 _ [] _ (by omega) rfl (hr.below (by repeat' (first | with_reducible exact B1 | with_reducible exact Below.refl _ _ | with_reducible refine Below.drew ?_ | with_reducible refine Below.alloc ?_ ?_ _ | with_reducible refine bset ?_ ?_ _ | omega | (simp <;> omega))) (Nat.le_refl _)) (Or.inr rfl)).mono ?_
  rintro e w2 ⟨rfl, hb2⟩
  have B2 : Below w.heap.size w w2 := Below.trans (by repeat' (first | with_reducible exact B1 | with_reducible exact Below.refl _ _ | with_reducible refine Below.drew ?_ | with_reducible refine Below.alloc ?_ ?_ _ | with_reducible refine bset ?_ ?_ _ | omega | (simp <;> omega))) (hb2.mono (by first | omega | (simp <;> omega)))
  have hz2 := B2.size
  clear hb2 B1
  go_wp2_with fail
  refine (awake_any _).mono ?_
  rintro e w3 ⟨rfl, hb3⟩
  have B3 : Below w.heap.size w w3 := Below.trans (by repeat' (first | with_reducible exact B2 | with_reducible exact Below.refl _ _ | with_reducible refine Below.drew ?_ | with_reducible refine Below.alloc ?_ ?_ _ | with_reducible refine bset ?_ ?_ _ | omega | (simp <;> omega))) (hb3.mono (by first | omega | (simp <;> omega)))
  have hz3 := B3.size
  clear hb3 B2
  go_wp2_with fail
  go_ret
  exact ⟨rfl, (by repeat' (first | with_reducible exact B3 | with_reducible exact Below.refl _ _ | with_reducible refine Below.drew ?_ | with_reducible refine Below.alloc ?_ ?_ _ | with_reducible refine bset ?_ ?_ _ | omega | (simp <;> omega)))⟩

set_option maxRecDepth 100000 in
set_option maxHeartbeats 1000000 in
theorem bounds_few_hi (s n : Int) (b o : Nat) (N cap : Nat) (ws : List Int) (w : World) (h1 : 1 ≤ n) (hn : n ≤ 9223372036854775807) (hN : 0 < N) (hN2 : N ≤ 4096) (hlen : Hid (ws.length = N)) (hr : Row w (some ⟨b, o, none⟩) ws) :
    Calls Try.prog 8 #[.int .u64 s, .int .i64 n, .slice (some ⟨b, o, none⟩) N cap] w fun e w' => e = .returned (.bool true) ∧ Below w.heap.size w w' := by
  go_enter Try.func8, Try.ntmps8
  go_wp2_with fail
  refine (below_hi _ _ _ h1 hn).mono ?_
  rintro e w1 ⟨x, hx1, hx2, rfl, hb1⟩
  have B1 : Below w.heap.size w w1 := Below.trans (by repeat' (first | with_reducible exact rfl | with_reducible exact Below.refl _ _ | with_reducible refine Below.drew ?_ | with_reducible refine Below.alloc ?_ ?_ _ | with_reducible refine bset ?_ ?_ _ | omega | (simp <;> omega))) (hb1.mono (by first | omega | (simp <;> omega)))
  have hz1 := B1.size
  clear hb1
  go_wp2_with fail
  obtain ⟨wA, ewA⟩ : ∃ wA, wA = w1.alloc (.cells #[.int .u64 (belowS s n)] 24) := ⟨_, rfl⟩
  rw [← ewA]
  have BA : Below w.heap.size w wA := by rw [ewA]; exact (by repeat' (first | with_reducible exact B1 | with_reducible exact Below.refl _ _ | with_reducible refine Below.drew ?_ | with_reducible refine Below.alloc ?_ ?_ _ | with_reducible refine bset ?_ ?_ _ | omega | (simp <;> omega)))
  have hrA := hr.below BA (Nat.le_refl _)
  have hzA := BA.size
  clear ewA B1 hz1
  go_loop [9, 10] (fun t i => ∃ k : Nat, k ≤ N ∧ i = .int .i64 k ∧ t = .bool (someW (ws.take k))) (fun _ i => N - (intOf i).toNat)
  case atStart => exact ⟨0, Nat.zero_le _, rfl, rfl⟩
  case round =>
    obtain ⟨k, hk, rfl, rfl⟩ := hrel
    by_cases hlt : k < N
    · obtain ⟨v, hv, hcv⟩ := hrA.at k (by rw [hlen.out]; exact hlt)
      have hst := someW_take ws k (by rw [hlen.out]; exact hlt)
      rw [hv.out] at hst
      have Hst := hid hst
      clear hst
      cases hsw : someW (ws.take k)
      · have Hsw := hid hsw
        clear hsw
        by_cases hv0 : 0 < v
        · go_wp2
          go_round
          case rel => exact ⟨k + 1, by omega, by go_num, by rw [Hst.out, Hsw.out]; simp [hv0]⟩
          case measure => simp [intOf]; omega
        · go_wp2
          go_round
          case rel => exact ⟨k + 1, by omega, by go_num, by rw [Hst.out, Hsw.out]; simp; omega⟩
          case measure => simp [intOf]; omega
      · have Hsw := hid hsw
        clear hsw
        go_wp2
        go_round
        case rel => exact ⟨k + 1, by omega, by go_num, by rw [Hst.out, Hsw.out]; rfl⟩
        case measure => simp [intOf]; omega
    · have hfull : ws.take k = ws := List.take_of_length_le (by rw [hlen.out]; omega)
      rw [hfull]
      clear hfull
      cases hsw : someW ws
      · have Hsw := hid hsw
        clear hsw
        go_wp2_with fail
        refine (pick_no _ _ _ _ ws _ (by omega) hlen.out hrA (Or.inr Hsw.out)).mono ?_
        rintro e w11 ⟨rfl, hb11⟩
        have B11 : Below w.heap.size w w11 := Below.trans (by repeat' (first | with_reducible exact BA | with_reducible exact Below.refl _ _ | with_reducible refine Below.drew ?_ | with_reducible refine Below.alloc ?_ ?_ _ | with_reducible refine bset ?_ ?_ _ | omega | (simp <;> omega))) (hb11.mono (by first | omega | (simp <;> omega)))
        have hz11 := B11.size
        clear hb11 BA
        go_wp2_with fail
        refine (awake_any _).mono ?_
        rintro e w12 ⟨rfl, hb12⟩
        have B12 : Below w.heap.size w w12 := Below.trans (by repeat' (first | with_reducible exact B11 | with_reducible exact Below.refl _ _ | with_reducible refine Below.drew ?_ | with_reducible refine Below.alloc ?_ ?_ _ | with_reducible refine bset ?_ ?_ _ | omega | (simp <;> omega))) (hb12.mono (by first | omega | (simp <;> omega)))
        have hz12 := B12.size
        clear hb12 B11
        go_wp2_with fail
        go_ret
        exact ⟨rfl, (by repeat' (first | with_reducible exact B12 | with_reducible exact Below.refl _ _ | with_reducible refine Below.drew ?_ | with_reducible refine Below.alloc ?_ ?_ _ | with_reducible refine bset ?_ ?_ _ | omega | (simp <;> omega)))⟩
      · have Hsw := hid hsw
        clear hsw
        go_wp2_with fail
        refine (pick_yes _ _ _ _ ws _ hN2 hlen.out hrA Hsw.out).mono ?_
        rintro e w11 ⟨j, hj, hjp, rfl, hb11⟩
        have B11 : Below w.heap.size w w11 := Below.trans (by repeat' (first | with_reducible exact BA | with_reducible exact Below.refl _ _ | with_reducible refine Below.drew ?_ | with_reducible refine Below.alloc ?_ ?_ _ | with_reducible refine bset ?_ ?_ _ | omega | (simp <;> omega))) (hb11.mono (by first | omega | (simp <;> omega)))
        have hz11 := B11.size
        clear hb11 BA
        have hrB := hr.below B11 (Nat.le_refl _)
        obtain ⟨x2, hx2', hcx2⟩ := hrB.at j (by rw [hlen.out]; exact hj)
        have hbl := lt_of_cell hcx2
        have hxp : 0 < x2 := by have := hjp.out; rw [hx2'.out] at this; exact this
        go_wp2_with fail
        refine (awake_any _).mono ?_
        rintro e w12 ⟨rfl, hb12⟩
        have B12 : Below w.heap.size w w12 := Below.trans (by repeat' (first | with_reducible exact B11 | with_reducible exact Below.refl _ _ | with_reducible refine Below.drew ?_ | with_reducible refine Below.alloc ?_ ?_ _ | with_reducible refine bset ?_ ?_ _ | omega | (simp <;> omega))) (hb12.mono (by first | omega | (simp <;> omega)))
        have hz12 := B12.size
        clear hb12 B11
        go_wp2_with fail
        go_ret
        exact ⟨rfl, (by repeat' (first | with_reducible exact B12 | with_reducible exact Below.refl _ _ | with_reducible refine Below.drew ?_ | with_reducible refine Below.alloc ?_ ?_ _ | with_reducible refine bset ?_ ?_ _ | omega | (simp <;> omega)))⟩

theorem bounds_any (s n : Int) (ad : Option Addr) (N cap : Nat) (ws : List Int) (w : World) (hn : n ≤ 9223372036854775807) (hm : N ≤ 9223372036854775807) (hlen : ws.length = N) (hr : Row w ad ws) :
    Calls Try.prog 8 #[.int .u64 s, .int .i64 n, .slice ad N cap] w fun e w' => e = .returned (.bool true) ∧ Below w.heap.size w w' := by
  by_cases h5 : 5000 < N
  · exact bounds_many s n ad N cap w h5 hm
  · by_cases h4 : 4096 < N
    · by_cases h1 : n < 1
      · exact bounds_big_lo s n ad N cap ws w h1 h4 (by omega) (hid hlen) hr
      · exact bounds_big_hi s n ad N cap ws w (by omega) hn h4 (by omega) (hid hlen) hr
    · by_cases h0 : N = 0
      · obtain rfl : ws = [] := List.eq_nil_of_length_eq_zero (by omega)
        rw [h0]
        by_cases h1 : n < 1
        · exact bounds_zero_lo s n ad cap w h1 hr
        · exact bounds_zero_hi s n ad cap w (by omega) hn hr
      · obtain ⟨b, o, rfl⟩ := hr.head (by omega)
        by_cases h1 : n < 1
        · exact bounds_few_lo s n b o N cap ws w h1 (by omega) (by omega) (hid hlen) hr
        · exact bounds_few_hi s n b o N cap ws w (by omega) hn (by omega) (by omega) (hid hlen) hr
end Go.Proofs.Ytaekpkedjeefcaa
