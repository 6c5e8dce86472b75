/-
  The walks of Ints (two equal lists), of Pick and of its reference.
-/
import Derived.Test.YtaekpkedjeefcaaRows
import Derived.Test.YtaekpkedjeefcaaPlain
import Derived.Test.YtaekpkedjeefcaaHeap
import Derived.Test.YtaekpkedjeefcaaW1
import Derived.Test.YtaekpkedjeefcaaW3
import Derived.WalkKit
import Derived.ProofKit
import Derived.OpenShut
import Derived.BigRegion
import Derived.Outline
namespace Go.Proofs.Ytaekpkedjeefcaa
open Go.ChangeShapes Go.WideShapes Go.ChangeAt Go.RowKit

theorem Row.at {w : World} {b o : Nat} {l : List Int} (h : Row w (some ⟨b, o, none⟩) l) (i : Nat) (hi : i < l.length) : ∃ x, Hid (l.getD i 0 = x) ∧ w.cell? ⟨b, o + i, none⟩ = some (.int .i64 x) := by
  obtain ⟨b', o', e, hc⟩ := h i hi
  cases e
  exact ⟨_, hid rfl, hc⟩
theorem Row.head {w : World} {ad : Option Addr} {l : List Int} (h : Row w ad l) (hi : 0 < l.length) : ∃ b o, ad = some ⟨b, o, none⟩ := by
  obtain ⟨b', o', e, _⟩ := h 0 hi
  exact ⟨b', o', e⟩

theorem pick_many (s : Int) (ad : Option Addr) (n cap : Nat) (w : World) (hn : 4096 < n) (hm : n ≤ 9223372036854775807) :
    Calls Try.prog 22 #[.agg #[.int .u64 s], .slice ad n cap] w fun e w' => e = .returned (.tuple #[.agg #[.int .u64 s], .int .i64 (-1)]) ∧ Below w.heap.size w w' := by
  go_enter Try.func22, Try.ntmps22
  go_wp2
  exact bodyPost_ret (v := .tuple #[.agg #[.int .u64 s], .int .i64 (-1)]) (by simp [results, Try.results22, go_sem]) rfl ⟨rfl, (by repeat' (first | with_reducible exact rfl | with_reducible exact Below.refl _ _ | with_reducible refine Below.drew ?_ | with_reducible refine Below.alloc ?_ ?_ _ | with_reducible refine bset ?_ ?_ _ | omega | (simp <;> omega)))⟩

set_option maxRecDepth 100000 in
set_option maxHeartbeats 1000000 in
theorem pick_few (s : Int) (b o : Nat) (n cap : Nat) (ws : List Int) (w : World) (hn0 : 0 < n) (hn : n ≤ 4096) (hlen : Hid (ws.length = n)) (hr : Row w (some ⟨b, o, none⟩) ws) :
    Calls Try.prog 22 #[.agg #[.int .u64 s], .slice (some ⟨b, o, none⟩) n cap] w fun e w' => e = .returned (.tuple #[.agg #[.int .u64 (pickS s ws)], .int .i64 (pickX s ws)]) ∧ Below w.heap.size w w' := by
  go_enter Try.func22, Try.ntmps22
  go_wp2
  have hr0 : Row ((w.alloc (.cells #[.int .u64 s] 24)).alloc (.cells #[.int .u64 0] 24)) (some ⟨b, o, none⟩) ws := hr.below (by repeat' (first | with_reducible exact rfl | with_reducible exact Below.refl _ _ | with_reducible refine Below.drew ?_ | with_reducible refine Below.alloc ?_ ?_ _ | with_reducible refine bset ?_ ?_ _ | omega | (simp <;> omega))) (Nat.le_refl _)
  obtain ⟨w0, ew0⟩ : ∃ w0, w0 = (w.alloc (.cells #[.int .u64 s] 24)).alloc (.cells #[.int .u64 0] 24) := ⟨_, rfl⟩
  rw [← ew0] at hr0
  rw [← ew0]
  have hg0 : Has w0 (w.heap.size) #[.int .u64 s] 24 := by rw [ew0]; exact (by repeat' (first | with_reducible exact rfl | ((with_reducible refine Has.newAt ?_); (first | omega | (simp; done) | (simp; omega))) | with_reducible refine Has.drew ?_ | with_reducible refine Has.alloc ?_ _ | with_reducible refine Has.one ?_ _ | with_reducible refine Has.other ?_ ?_ _ | with_reducible exact Has1.of rfl | ((with_reducible refine Has1.newAt ?_); (first | omega | (simp; done) | (simp; omega))) | with_reducible refine Has1.drew ?_ | with_reducible refine Has1.alloc ?_ _ | with_reducible refine Has1.set ?_ _ | with_reducible refine Has1.other ?_ ?_ _ | omega | (simp <;> omega)))
  have hc0 : Has w0 (w.heap.size + 1) #[.int .u64 0] 24 := by rw [ew0]; exact (by repeat' (first | with_reducible exact rfl | ((with_reducible refine Has.newAt ?_); (first | omega | (simp; done) | (simp; omega))) | with_reducible refine Has.drew ?_ | with_reducible refine Has.alloc ?_ _ | with_reducible refine Has.one ?_ _ | with_reducible refine Has.other ?_ ?_ _ | with_reducible exact Has1.of rfl | ((with_reducible refine Has1.newAt ?_); (first | omega | (simp; done) | (simp; omega))) | with_reducible refine Has1.drew ?_ | with_reducible refine Has1.alloc ?_ _ | with_reducible refine Has1.set ?_ _ | with_reducible refine Has1.other ?_ ?_ _ | omega | (simp <;> omega)))
  have hb0 : Below w.heap.size w w0 := by rw [ew0]; exact (by repeat' (first | with_reducible exact rfl | with_reducible exact Below.refl _ _ | with_reducible refine Below.drew ?_ | with_reducible refine Below.alloc ?_ ?_ _ | with_reducible refine bset ?_ ?_ _ | omega | (simp <;> omega)))
  clear ew0
  go_loop [6, 8, 19] (fun t _ i => ∃ k : Nat, k ≤ n ∧ i = .int .i64 k ∧ t = .int .i64 (sumW (ws.take k))) (fun _ _ i => n - (intOf i).toNat)
  case atStart => exact ⟨0, Nat.zero_le _, rfl, rfl⟩
  case round =>
    obtain ⟨k, hk, rfl, rfl⟩ := hrel
    have hsb := sumW_take_bd ws k (by omega)
    by_cases hlt : k < n
    · obtain ⟨x, hx, hcx⟩ := hr0.at k (by rw [hlen.out]; exact hlt)
      have hst := sumW_take ws k (by rw [hlen.out]; exact hlt)
      rw [hx.out] at hst
      have Hst := hid hst
      clear hst
      have hwb := weight_bd x
      go_wp2_with (go_at_call 26; refine (weight_any _ _).mono ?_; rintro e w' ⟨rfl, rfl⟩)
      go_round
      case rel => exact ⟨k + 1, by omega, by go_num, by rw [Hst.out]⟩
      case measure => simp [intOf]; omega
    · have hkn : sumW (ws.take k) = sumW ws := by rw [List.take_of_length_le (by rw [hlen.out]; omega)]
      rw [hkn]
      rw [hkn] at hsb
      clear hkn
      by_cases hs0 : sumW ws = 0
      · have e1 : pickS s ws = s ∧ pickX s ws = -1 := by unfold pickS pickX; rw [hlen.out]; simp [show ¬ 4096 < n from by omega, hs0]
        rw [hs0]
        have E1 := hid e1
        clear e1 hs0 hsb
        have chg0 : w0.cell? ⟨w.heap.size, 0, none⟩ = some (.int .u64 s) := hg0.cell (j := 0) rfl
        have fhg0 : w0.frozen? ⟨w.heap.size, 0, none⟩ = false := hg0.free 0
        have chc0 : w0.cell? ⟨w.heap.size + 1, 0, none⟩ = some (.int .u64 0) := hc0.cell (j := 0) rfl
        have fhc0 : w0.frozen? ⟨w.heap.size + 1, 0, none⟩ = false := hc0.free 0
        go_wp2
        exact bodyPost_ret (v := .tuple #[.agg #[.int .u64 s], .int .i64 (-1)]) (by simp [results, Try.results22, go_sem, chc0]) rfl ⟨by rw [E1.out.1, E1.out.2], (by repeat' (first | with_reducible exact hb0 | with_reducible exact Below.refl _ _ | with_reducible refine Below.drew ?_ | with_reducible refine Below.alloc ?_ ?_ _ | with_reducible refine bset ?_ ?_ _ | omega | (simp <;> omega)))⟩
      · have e1 : pickS s ws = belowS s (sumW ws) ∧ pickX s ws = pickAt (belowX s (sumW ws)) ws 0 := by unfold pickS pickX; rw [hlen.out]; simp [show ¬ 4096 < n from by omega, hs0]
        have E1 := hid e1
        clear e1
        have hbeq : (sumW ws == 0) = false := by simpa using hs0
        go_wp2_with fail
        refine (drawer_any _ _).mono ?_
        rintro e w1 ⟨rfl, hw1⟩
        have hr1 : Row w1 (some ⟨b, o, none⟩) ws := by rw [← hw1]; exact hr0.below ((Below.refl _ _).alloc (Nat.le_refl _) _) (Nat.le_refl _)
        have hg1 : Has w1 w.heap.size #[.int .u64 s] 24 := by rw [← hw1]; exact hg0.alloc _
        have hc1 : Has w1 (w.heap.size + 1) #[.int .u64 0] 24 := by rw [← hw1]; exact hc0.alloc _
        obtain ⟨c, ec⟩ : ∃ c, c = w0.heap.size := ⟨_, rfl⟩
        rw [← ec]
        have hp1 : Has w1 c #[.pointer (some ⟨w.heap.size, 0, none⟩)] 49 := by rw [← hw1]; exact Has.newAt ec
        have hcb : w.heap.size + 1 < c := by rw [ec]; exact hc0.lt
        have hb1 : Below w.heap.size w w1 := by rw [← hw1]; exact hb0.alloc hb0.size _
        have hbne : ∀ x, some (⟨b, o, none⟩ : Addr) = some x → x.block ∉ [w.heap.size] := by
          intro x hx
          cases hx
          obtain ⟨x0, _, hx0⟩ := hr.at 0 (by rw [hlen.out]; exact hn0)
          have := lt_of_cell hx0
          simp; omega
        clear hw1 ec hg0 hc0 hb0 hr0 hr
        go_wp2_with fail
        refine (draw_any _ s c w.heap.size _ (by omega) hp1 hg1).mono ?_
        rintro e w2 ⟨j, hj1, hj2, rfl, hg2, ho2⟩
        have hr2 : Row w2 (some ⟨b, o, none⟩) ws := hr1.only ho2 hbne
        have hc2 : Has w2 (w.heap.size + 1) #[.int .u64 0] 24 := hc1.only ho2 (by simp)
        have hb2 : Below w.heap.size w w2 := ho2.toBelow hb1 (by simp) hb1.size
        have Hj := hid hj2
        have hjb : Hid ((j : Int) < 17592186044416) := hid <| by have := belowX_lt s (sumW ws) (by omega); omega
        clear hj1 hj2 ho2 hg1 hc1 hp1 hb1 hr1 hbne hbeq
        obtain ⟨s2, es2⟩ : ∃ s2, s2 = belowS s (sumW ws) := ⟨_, rfl⟩
        rw [← es2] at hg2
        have Es2 := hid es2
        clear es2 hs0 hsb
        go_wp2_with fail
        go_loop [10, 11, 12, 37] (fun t _ _ i => ∃ (k : Nat) (x : Int), k ≤ n ∧ i = .int .i64 k ∧ t = .int .i64 x ∧ 0 ≤ x ∧ x < 17592186044416 ∧ Hid (pickAt x (ws.drop k) k = pickAt j ws 0)) (fun _ _ _ i => n - (intOf i).toNat)
        case atStart => exact ⟨0, j, Nat.zero_le _, rfl, rfl, by omega, hjb.out, hid rfl⟩
        case round =>
          clear hjb
          obtain ⟨k, x, hk, rfl, rfl, hx1, hx2, hpk⟩ := hrel
          by_cases hlt : k < n
          · obtain ⟨v, hv, hcv⟩ := hr2.at k (by rw [hlen.out]; exact hlt)
            have hwb := weight_bd v
            by_cases hxv : x < weight v
            · have e2 : pickAt j ws 0 = k := by rw [← hpk.out]; exact pickAt_hit x ws k (by rw [hlen.out]; exact hlt) (by rw [hv.out]; exact hxv)
              have E2 := hid e2
              clear e2
              have chg2 : w2.cell? ⟨w.heap.size, 0, none⟩ = some (.int .u64 s2) := hg2.cell (j := 0) rfl
              have fhg2 : w2.frozen? ⟨w.heap.size, 0, none⟩ = false := hg2.free 0
              have chc2 : w2.cell? ⟨w.heap.size + 1, 0, none⟩ = some (.int .u64 0) := hc2.cell (j := 0) rfl
              have fhc2 : w2.frozen? ⟨w.heap.size + 1, 0, none⟩ = false := hc2.free 0
              go_wp2_with (go_at_call 26; refine (weight_any _ _).mono ?_; rintro e w' ⟨rfl, rfl⟩)
              exact bodyPost_ret (v := .tuple #[.agg #[.int .u64 s2], .int .i64 k]) (by simp [results, Try.results22, go_sem, chc2]) rfl ⟨by rw [E1.out.1, E1.out.2, ← Es2.out, ← Hj.out, E2.out], (by repeat' (first | with_reducible exact hb2 | with_reducible exact Below.refl _ _ | with_reducible refine Below.drew ?_ | with_reducible refine Below.alloc ?_ ?_ _ | with_reducible refine bset ?_ ?_ _ | omega | (simp <;> omega)))⟩
            · have hpm := pickAt_miss x ws k (by rw [hlen.out]; exact hlt) (by rw [hv.out]; exact hxv)
              rw [hpk.out, hv.out] at hpm
              have Hpm := hid hpm
              clear hpm hpk
              go_wp2_with (go_at_call 26; refine (weight_any _ _).mono ?_; rintro e w' ⟨rfl, rfl⟩)
              go_round
              case rel => exact ⟨k + 1, x - weight v, by omega, by go_num, rfl, by omega, by omega, hid Hpm.out.symm⟩
              case measure => simp [intOf]; omega
          · have hkn : k = ws.length := by rw [hlen.out]; omega
            have e2 : pickAt j ws 0 = -1 := by rw [← hpk.out, hkn]; exact pickAt_end _ _ _
            have E2 := hid e2
            clear e2 hkn
            have chg2 : w2.cell? ⟨w.heap.size, 0, none⟩ = some (.int .u64 s2) := hg2.cell (j := 0) rfl
            have fhg2 : w2.frozen? ⟨w.heap.size, 0, none⟩ = false := hg2.free 0
            have chc2 : w2.cell? ⟨w.heap.size + 1, 0, none⟩ = some (.int .u64 0) := hc2.cell (j := 0) rfl
            have fhc2 : w2.frozen? ⟨w.heap.size + 1, 0, none⟩ = false := hc2.free 0
            go_wp2
            exact bodyPost_ret (v := .tuple #[.agg #[.int .u64 s2], .int .i64 (-1)]) (by simp [results, Try.results22, go_sem, chc2]) rfl ⟨by rw [E1.out.1, E1.out.2, ← Es2.out, ← Hj.out, E2.out], (by repeat' (first | with_reducible exact hb2 | with_reducible exact Below.refl _ _ | with_reducible refine Below.drew ?_ | with_reducible refine Below.alloc ?_ ?_ _ | with_reducible refine bset ?_ ?_ _ | omega | (simp <;> omega)))⟩

theorem pick_none (s : Int) (ad : Option Addr) (cap : Nat) (w : World) :
    Calls Try.prog 22 #[.agg #[.int .u64 s], .slice ad 0 cap] w fun e w' => e = .returned (.tuple #[.agg #[.int .u64 s], .int .i64 (-1)]) ∧ Below w.heap.size w w' := by
  go_enter Try.func22, Try.ntmps22
  go_wp2
  refine wp_loop_rounds 1 ?_
  rw [rounds_succ]
  go_wp2
  exact bodyPost_ret (v := .tuple #[.agg #[.int .u64 s], .int .i64 (-1)]) (by simp [results, Try.results22, go_sem]) rfl ⟨rfl, (by repeat' (first | with_reducible exact rfl | with_reducible exact Below.refl _ _ | with_reducible refine Below.drew ?_ | with_reducible refine Below.alloc ?_ ?_ _ | with_reducible refine bset ?_ ?_ _ | omega | (simp <;> omega)))⟩
theorem rpick_none (s : Int) (ad : Option Addr) (cap : Nat) (w : World) :
    Calls Try.prog 23 #[.agg #[.int .u64 s], .slice ad 0 cap] w fun e w' => e = .returned (.tuple #[.agg #[.int .u64 s], .int .i64 (-1)]) ∧ Below w.heap.size w w' := by
  go_enter Try.func23, Try.ntmps23
  go_wp2
  refine wp_loop_rounds 1 ?_
  rw [rounds_succ]
  go_wp2
  exact bodyPost_ret (v := .tuple #[.agg #[.int .u64 s], .int .i64 (-1)]) (by simp [results, Try.results23, go_sem]) rfl ⟨rfl, (by repeat' (first | with_reducible exact rfl | with_reducible exact Below.refl _ _ | with_reducible refine Below.drew ?_ | with_reducible refine Below.alloc ?_ ?_ _ | with_reducible refine bset ?_ ?_ _ | omega | (simp <;> omega)))⟩
theorem rpick_many (s : Int) (ad : Option Addr) (n cap : Nat) (w : World) (hn : 4096 < n) (hm : n ≤ 9223372036854775807) :
    Calls Try.prog 23 #[.agg #[.int .u64 s], .slice ad n cap] w fun e w' => e = .returned (.tuple #[.agg #[.int .u64 s], .int .i64 (-1)]) ∧ Below w.heap.size w w' := by
  go_enter Try.func23, Try.ntmps23
  go_wp2
  exact bodyPost_ret (v := .tuple #[.agg #[.int .u64 s], .int .i64 (-1)]) (by simp [results, Try.results23, go_sem]) rfl ⟨rfl, (by repeat' (first | with_reducible exact rfl | with_reducible exact Below.refl _ _ | with_reducible refine Below.drew ?_ | with_reducible refine Below.alloc ?_ ?_ _ | with_reducible refine bset ?_ ?_ _ | omega | (simp <;> omega)))⟩

set_option maxRecDepth 100000 in
set_option maxHeartbeats 1000000 in
theorem rpick_few (s : Int) (b o : Nat) (n cap : Nat) (ws : List Int) (w : World) (hn0 : 0 < n) (hn : n ≤ 4096) (hlen : Hid (ws.length = n)) (hr : Row w (some ⟨b, o, none⟩) ws) :
    Calls Try.prog 23 #[.agg #[.int .u64 s], .slice (some ⟨b, o, none⟩) n cap] w fun e w' => e = .returned (.tuple #[.agg #[.int .u64 (pickS s ws)], .int .i64 (pickX s ws)]) ∧ Below w.heap.size w w' := by
  go_enter Try.func23, Try.ntmps23
  go_wp2
  have hr0 : Row ((w.alloc (.cells #[.int .u64 s] 24)).alloc (.cells #[.int .u64 0] 24)) (some ⟨b, o, none⟩) ws := hr.below (by repeat' (first | with_reducible exact rfl | with_reducible exact Below.refl _ _ | with_reducible refine Below.drew ?_ | with_reducible refine Below.alloc ?_ ?_ _ | with_reducible refine bset ?_ ?_ _ | omega | (simp <;> omega))) (Nat.le_refl _)
  obtain ⟨w0, ew0⟩ : ∃ w0, w0 = (w.alloc (.cells #[.int .u64 s] 24)).alloc (.cells #[.int .u64 0] 24) := ⟨_, rfl⟩
  rw [← ew0] at hr0
  rw [← ew0]
  have hg0 : Has w0 (w.heap.size) #[.int .u64 s] 24 := by rw [ew0]; exact (by repeat' (first | with_reducible exact rfl | ((with_reducible refine Has.newAt ?_); (first | omega | (simp; done) | (simp; omega))) | with_reducible refine Has.drew ?_ | with_reducible refine Has.alloc ?_ _ | with_reducible refine Has.one ?_ _ | with_reducible refine Has.other ?_ ?_ _ | with_reducible exact Has1.of rfl | ((with_reducible refine Has1.newAt ?_); (first | omega | (simp; done) | (simp; omega))) | with_reducible refine Has1.drew ?_ | with_reducible refine Has1.alloc ?_ _ | with_reducible refine Has1.set ?_ _ | with_reducible refine Has1.other ?_ ?_ _ | omega | (simp <;> omega)))
  have hc0 : Has w0 (w.heap.size + 1) #[.int .u64 0] 24 := by rw [ew0]; exact (by repeat' (first | with_reducible exact rfl | ((with_reducible refine Has.newAt ?_); (first | omega | (simp; done) | (simp; omega))) | with_reducible refine Has.drew ?_ | with_reducible refine Has.alloc ?_ _ | with_reducible refine Has.one ?_ _ | with_reducible refine Has.other ?_ ?_ _ | with_reducible exact Has1.of rfl | ((with_reducible refine Has1.newAt ?_); (first | omega | (simp; done) | (simp; omega))) | with_reducible refine Has1.drew ?_ | with_reducible refine Has1.alloc ?_ _ | with_reducible refine Has1.set ?_ _ | with_reducible refine Has1.other ?_ ?_ _ | omega | (simp <;> omega)))
  have hb0 : Below w.heap.size w w0 := by rw [ew0]; exact (by repeat' (first | with_reducible exact rfl | with_reducible exact Below.refl _ _ | with_reducible refine Below.drew ?_ | with_reducible refine Below.alloc ?_ ?_ _ | with_reducible refine bset ?_ ?_ _ | omega | (simp <;> omega)))
  clear ew0 hr
  go_loop [6, 7] (fun t i => ∃ k : Nat, k ≤ n ∧ i = .int .i64 k ∧ t = .int .i64 (sumW (ws.take k))) (fun _ i => n - (intOf i).toNat)
  case atStart => exact ⟨0, Nat.zero_le _, rfl, rfl⟩
  case round =>
    obtain ⟨k, hk, rfl, rfl⟩ := hrel
    have hsb := sumW_take_bd ws k (by omega)
    by_cases hlt : k < n
    · obtain ⟨x, hx, hcx⟩ := hr0.at k (by rw [hlen.out]; exact hlt)
      have hst := sumW_take ws k (by rw [hlen.out]; exact hlt)
      rw [hx.out] at hst
      have Hst := hid hst
      clear hst
      have hwb := weight_bd x
      go_wp2_with (go_at_call 27; refine (rweight_any _ _).mono ?_; rintro e w' ⟨rfl, rfl⟩)
      go_round
      case rel => exact ⟨k + 1, by omega, by go_num, by rw [Hst.out]⟩
      case measure => simp [intOf]; omega
    · have hkn : sumW (ws.take k) = sumW ws := by rw [List.take_of_length_le (by rw [hlen.out]; omega)]
      rw [hkn]
      rw [hkn] at hsb
      clear hkn
      have chg0 : w0.cell? ⟨w.heap.size, 0, none⟩ = some (.int .u64 s) := hg0.cell (j := 0) rfl
      have fhg0 : w0.frozen? ⟨w.heap.size, 0, none⟩ = false := hg0.free 0
      have chc0 : w0.cell? ⟨w.heap.size + 1, 0, none⟩ = some (.int .u64 0) := hc0.cell (j := 0) rfl
      have fhc0 : w0.frozen? ⟨w.heap.size + 1, 0, none⟩ = false := hc0.free 0
      by_cases hs0 : sumW ws = 0
      · have e1 : pickS s ws = s ∧ pickX s ws = -1 := by unfold pickS pickX; rw [hlen.out]; simp [show ¬ 4096 < n from by omega, hs0]
        rw [hs0]
        have E1 := hid e1
        clear e1 hs0 hsb
        go_wp2
        exact bodyPost_ret (v := .tuple #[.agg #[.int .u64 s], .int .i64 (-1)]) (by simp [results, Try.results23, go_sem, chc0]) rfl ⟨by rw [E1.out.1, E1.out.2], (by repeat' (first | with_reducible exact hb0 | with_reducible exact Below.refl _ _ | with_reducible refine Below.drew ?_ | with_reducible refine Below.alloc ?_ ?_ _ | with_reducible refine bset ?_ ?_ _ | omega | (simp <;> omega)))⟩
      · have e1 : pickS s ws = belowS s (sumW ws) ∧ pickX s ws = pickAt (belowX s (sumW ws)) ws 0 := by unfold pickS pickX; rw [hlen.out]; simp [show ¬ 4096 < n from by omega, hs0]
        have E1 := hid e1
        clear e1
        have hbeq : (sumW ws == 0) = false := by simpa using hs0
        go_wp2_with fail
        refine (rbelow_any _ _ _ (by omega)).mono ?_
        rintro e w1 ⟨rfl, hb⟩
        have hr1 : Row w1 (some ⟨b, o, none⟩) ws := hr0.below hb (Nat.le_refl _)
        have hc1 : Has w1 (w.heap.size + 1) #[.int .u64 0] 24 := hc0.below hb hc0.lt
        have hb1 : Below w.heap.size w w1 := hb0.trans (hb.mono hb0.size)
        obtain ⟨x0, ex0⟩ : ∃ x0, x0 = belowX s (sumW ws) := ⟨_, rfl⟩
        have hx0 : 0 ≤ x0 := by rw [ex0]; exact belowX_nonneg _ _
        rw [← ex0]
        have Ex0 := hid ex0
        clear ex0
        obtain ⟨s2, es2⟩ : ∃ s2, s2 = belowS s (sumW ws) := ⟨_, rfl⟩
        rw [← es2]
        have Es2 := hid es2
        clear es2 hs0 hsb hb hb0 hc0 hg0 hr0 hbeq chc0 fhc0 chg0 fhg0
        have hzz := hb1.size
        have hbl : b < w1.heap.size := by
          obtain ⟨x0, _, hx0⟩ := hr1.at 0 (by rw [hlen.out]; exact hn0)
          exact lt_of_cell hx0
        go_wp2_with fail
        obtain ⟨w2, ew2⟩ : ∃ w2, w2 = w1.alloc (.cells #[.int .u64 s2] 24) := ⟨_, rfl⟩
        rw [← ew2]
        have hn2 : Has w2 (w1.heap.size) #[.int .u64 s2] 24 := by rw [ew2]; exact (by repeat' (first | with_reducible exact rfl | ((with_reducible refine Has.newAt ?_); (first | omega | (simp; done) | (simp; omega))) | with_reducible refine Has.drew ?_ | with_reducible refine Has.alloc ?_ _ | with_reducible refine Has.one ?_ _ | with_reducible refine Has.other ?_ ?_ _ | with_reducible exact Has1.of rfl | ((with_reducible refine Has1.newAt ?_); (first | omega | (simp; done) | (simp; omega))) | with_reducible refine Has1.drew ?_ | with_reducible refine Has1.alloc ?_ _ | with_reducible refine Has1.set ?_ _ | with_reducible refine Has1.other ?_ ?_ _ | omega | (simp <;> omega)))
        have hc2 : Has w2 (w.heap.size + 1) #[.int .u64 0] 24 := by rw [ew2]; exact (by repeat' (first | with_reducible exact hc1 | ((with_reducible refine Has.newAt ?_); (first | omega | (simp; done) | (simp; omega))) | with_reducible refine Has.drew ?_ | with_reducible refine Has.alloc ?_ _ | with_reducible refine Has.one ?_ _ | with_reducible refine Has.other ?_ ?_ _ | with_reducible exact Has1.of hc1 | ((with_reducible refine Has1.newAt ?_); (first | omega | (simp; done) | (simp; omega))) | with_reducible refine Has1.drew ?_ | with_reducible refine Has1.alloc ?_ _ | with_reducible refine Has1.set ?_ _ | with_reducible refine Has1.other ?_ ?_ _ | omega | (simp <;> omega)))
        have hb2 : Below w.heap.size w w2 := by rw [ew2]; exact (by repeat' (first | with_reducible exact hb1 | with_reducible exact Below.refl _ _ | with_reducible refine Below.drew ?_ | with_reducible refine Below.alloc ?_ ?_ _ | with_reducible refine bset ?_ ?_ _ | omega | (simp <;> omega)))
        have hr2 : Row w2 (some ⟨b, o, none⟩) ws := by rw [ew2]; exact hr1.below ((Below.refl _ _).alloc (Nat.le_refl _) _) (Nat.le_refl _)
        obtain ⟨c, ec⟩ : ∃ c, c = w1.heap.size := ⟨_, rfl⟩
        rw [← ec]
        rw [← ec] at hn2
        have hcw : w.heap.size + 1 < c := by rw [ec]; exact hc1.lt
        clear ew2 ec hr1 hc1 hb1 hbl
        go_loop [6, 10] (fun t i => ∃ (k : Nat) (y : Int), k ≤ n ∧ i = .int .i64 k ∧ t = .int .i64 y ∧ Hid (y = sumW (ws.take k)) ∧ Hid (pickAt (x0 - y) (ws.drop k) k = pickAt x0 ws 0)) (fun _ i => n - (intOf i).toNat)
        case atStart => exact ⟨0, 0, Nat.zero_le _, rfl, rfl, hid rfl, hid (by simp)⟩
        case round =>
          obtain ⟨k, y, hk, rfl, rfl, hy, hpk⟩ := hrel
          have hyb : 0 ≤ y ∧ y ≤ 17592186044416 := by rw [hy.out]; exact sumW_take_bd ws k (by omega)
          by_cases hlt : k < n
          · obtain ⟨v, hv, hcv⟩ := hr2.at k (by rw [hlen.out]; exact hlt)
            have hwb := weight_bd v
            by_cases hxv : x0 < y + weight v
            · have e2 : pickAt x0 ws 0 = k := by rw [← hpk.out]; exact pickAt_hit _ ws k (by rw [hlen.out]; exact hlt) (by rw [hv.out]; omega)
              have E2 := hid e2
              clear e2
              have chn2 : w2.cell? ⟨c, 0, none⟩ = some (.int .u64 s2) := hn2.cell (j := 0) rfl
              have fhn2 : w2.frozen? ⟨c, 0, none⟩ = false := hn2.free 0
              have chc2 : w2.cell? ⟨w.heap.size + 1, 0, none⟩ = some (.int .u64 0) := hc2.cell (j := 0) rfl
              have fhc2 : w2.frozen? ⟨w.heap.size + 1, 0, none⟩ = false := hc2.free 0
              go_wp2_with (go_at_call 27; refine (rweight_any _ _).mono ?_; rintro e w' ⟨rfl, rfl⟩)
              exact bodyPost_ret (v := .tuple #[.agg #[.int .u64 s2], .int .i64 k]) (by simp [results, Try.results23, go_sem, chc2]) rfl ⟨by rw [E1.out.1, E1.out.2, ← Es2.out, ← Ex0.out, E2.out], (by repeat' (first | with_reducible exact hb2 | with_reducible exact Below.refl _ _ | with_reducible refine Below.drew ?_ | with_reducible refine Below.alloc ?_ ?_ _ | with_reducible refine bset ?_ ?_ _ | omega | (simp <;> omega)))⟩
            · have hpm := pickAt_miss (x0 - y) ws k (by rw [hlen.out]; exact hlt) (by rw [hv.out]; omega)
              rw [hpk.out, hv.out] at hpm
              have Hpm := hid hpm
              have hst := sumW_take ws k (by rw [hlen.out]; exact hlt)
              rw [hv.out, ← hy.out] at hst
              have Hst := hid hst
              clear hpm hpk hst
              go_wp2_with (go_at_call 27; refine (rweight_any _ _).mono ?_; rintro e w' ⟨rfl, rfl⟩)
              go_round
              case rel => exact ⟨k + 1, y + weight v, by omega, by go_num, rfl, hid Hst.out.symm, hid (by rw [Hpm.out]; congr 1; omega)⟩
              case measure => simp [intOf]; omega
          · have hkn : k = ws.length := by rw [hlen.out]; omega
            have e2 : pickAt x0 ws 0 = -1 := by rw [← hpk.out, hkn]; exact pickAt_end _ _ _
            have E2 := hid e2
            clear e2 hkn
            have chn2 : w2.cell? ⟨c, 0, none⟩ = some (.int .u64 s2) := hn2.cell (j := 0) rfl
            have fhn2 : w2.frozen? ⟨c, 0, none⟩ = false := hn2.free 0
            have chc2 : w2.cell? ⟨w.heap.size + 1, 0, none⟩ = some (.int .u64 0) := hc2.cell (j := 0) rfl
            have fhc2 : w2.frozen? ⟨w.heap.size + 1, 0, none⟩ = false := hc2.free 0
            go_wp2
            exact bodyPost_ret (v := .tuple #[.agg #[.int .u64 s2], .int .i64 (-1)]) (by simp [results, Try.results23, go_sem, chc2]) rfl ⟨by rw [E1.out.1, E1.out.2, ← Es2.out, ← Ex0.out, E2.out], (by repeat' (first | with_reducible exact hb2 | with_reducible exact Below.refl _ _ | with_reducible refine Below.drew ?_ | with_reducible refine Below.alloc ?_ ?_ _ | with_reducible refine bset ?_ ?_ _ | omega | (simp <;> omega)))⟩

theorem pickS_nil (s : Int) : pickS s [] = s ∧ pickX s [] = -1 := by simp [pickS, pickX, sumW]
theorem pickS_many (s : Int) (ws : List Int) (h : 4096 < ws.length) : pickS s ws = s ∧ pickX s ws = -1 := by simp [pickS, pickX, h]
theorem pick_any (s : Int) (ad : Option Addr) (n cap : Nat) (ws : List Int) (w : World) (hm : n ≤ 9223372036854775807) (hlen : ws.length = n) (hr : Row w ad ws) :
    Calls Try.prog 22 #[.agg #[.int .u64 s], .slice ad n cap] w fun e w' => e = .returned (.tuple #[.agg #[.int .u64 (pickS s ws)], .int .i64 (pickX s ws)]) ∧ Below w.heap.size w w' := by
  by_cases h1 : 4096 < n
  · have h := pickS_many s ws (by omega)
    rw [h.1, h.2]
    exact pick_many s ad n cap w h1 hm
  · by_cases h0 : n = 0
    · obtain rfl : ws = [] := List.eq_nil_of_length_eq_zero (by omega)
      have h := pickS_nil s
      rw [h.1, h.2, h0]
      exact pick_none s ad cap w
    · obtain ⟨b, o, rfl⟩ := hr.head (by omega)
      exact pick_few s b o n cap ws w (by omega) (by omega) (hid hlen) hr
theorem rpick_any (s : Int) (ad : Option Addr) (n cap : Nat) (ws : List Int) (w : World) (hm : n ≤ 9223372036854775807) (hlen : ws.length = n) (hr : Row w ad ws) :
    Calls Try.prog 23 #[.agg #[.int .u64 s], .slice ad n cap] w fun e w' => e = .returned (.tuple #[.agg #[.int .u64 (pickS s ws)], .int .i64 (pickX s ws)]) ∧ Below w.heap.size w w' := by
  by_cases h1 : 4096 < n
  · have h := pickS_many s ws (by omega)
    rw [h.1, h.2]
    exact rpick_many s ad n cap w h1 hm
  · by_cases h0 : n = 0
    · obtain rfl : ws = [] := List.eq_nil_of_length_eq_zero (by omega)
      have h := pickS_nil s
      rw [h.1, h.2, h0]
      exact rpick_none s ad cap w
    · obtain ⟨b, o, rfl⟩ := hr.head (by omega)
      exact rpick_few s b o n cap ws w (by omega) (by omega) (hid hlen) hr

/-- Two slices that read as one list: Ints says yes. -/
theorem ints_none (a1 a2 : Option Addr) (c1 c2 : Nat) (w : World) :
    Calls Try.prog 21 #[.slice a1 0 c1, .slice a2 0 c2] w fun e w' => e = .returned (.bool true) ∧ Below w.heap.size w w' := by
  go_enter Try.func21, Try.ntmps21
  go_wp2
  refine wp_loop_rounds 1 ?_
  rw [rounds_succ]
  go_wp2
  go_ret
  exact ⟨rfl, Below.refl _ _⟩
set_option maxHeartbeats 1000000 in
theorem ints_some (b1 o1 b2 o2 : Nat) (n c1 c2 : Nat) (l : List Int) (w : World) (hm : n ≤ 9223372036854775807) (hlen : Hid (l.length = n)) (h1 : Row w (some ⟨b1, o1, none⟩) l) (h2 : Row w (some ⟨b2, o2, none⟩) l) :
    Calls Try.prog 21 #[.slice (some ⟨b1, o1, none⟩) n c1, .slice (some ⟨b2, o2, none⟩) n c2] w fun e w' => e = .returned (.bool true) ∧ Below w.heap.size w w' := by
  go_enter Try.func21, Try.ntmps21
  go_wp2
  go_loopw [5, 13] (fun _ i wr => ∃ k : Nat, k ≤ n ∧ i = .int .i64 k ∧ Row wr (some ⟨b1, o1, none⟩) l ∧ Row wr (some ⟨b2, o2, none⟩) l ∧ Below w.heap.size w wr) (fun _ i _ => n - (intOf i).toNat)
  case atStart => exact ⟨0, Nat.zero_le _, rfl, h1, h2, Below.refl _ _⟩
  case round =>
    clear h1 h2
    obtain ⟨k, hk, rfl, h1, h2, hb⟩ := hrel
    by_cases hlt : k < n
    · obtain ⟨x, hx, hcx⟩ := h1.at k (by rw [hlen.out]; exact hlt)
      obtain ⟨y, hy, hcy⟩ := h2.at k (by rw [hlen.out]; exact hlt)
      have hxy : x = y := hx.out.symm.trans hy.out
      subst hxy
      go_wp2
      go_region
      go_wp2
      go_roundw
      case rel => exact ⟨k + 1, by omega, by go_num, h1.below ((Below.refl _ _).drew) (Nat.le_refl _), h2.below ((Below.refl _ _).drew) (Nat.le_refl _), hb.drew⟩
      case measure => simp [intOf]; omega
    · go_wp2
      go_ret
      exact ⟨rfl, hb⟩
theorem ints_any (a1 a2 : Option Addr) (n c1 c2 : Nat) (l : List Int) (w : World) (hm : n ≤ 9223372036854775807) (hlen : l.length = n) (h1 : Row w a1 l) (h2 : Row w a2 l) :
    Calls Try.prog 21 #[.slice a1 n c1, .slice a2 n c2] w fun e w' => e = .returned (.bool true) ∧ Below w.heap.size w w' := by
  by_cases h0 : n = 0
  · rw [h0]; exact ints_none a1 a2 c1 c2 w
  · obtain ⟨b1, o1, rfl⟩ := h1.head (by omega)
    obtain ⟨b2, o2, rfl⟩ := h2.head (by omega)
    exact ints_some b1 o1 b2 o2 n c1 c2 l w hm (hid hlen) h1 h2
end Go.Proofs.Ytaekpkedjeefcaa
