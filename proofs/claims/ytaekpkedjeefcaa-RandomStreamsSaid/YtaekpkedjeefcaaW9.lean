/-
  The walk of the statement RandomStreams.
-/
import Derived.Test.YtaekpkedjeefcaaRows
import Derived.Test.YtaekpkedjeefcaaPlain2
import Derived.Test.YtaekpkedjeefcaaHeap
import Derived.Test.YtaekpkedjeefcaaW1
import Derived.Test.YtaekpkedjeefcaaW7
import Derived.WalkKit
import Derived.ProofKit
import Derived.OpenShut
import Derived.Outline
namespace Go.Proofs.Ytaekpkedjeefcaa
open Go.ChangeShapes Go.WideShapes Go.ChangeAt Go.RowKit

set_option maxRecDepth 100000 in
set_option maxHeartbeats 1000000 in
theorem streams_any (s oth : Int) (c : Nat) (w : World) (hs : Hid (0 ≤ s ∧ s ≤ 18446744073709551615)) (hc : c ≤ 255) :
    Calls Try.prog 9 #[.int .u64 s, .int .u8 c, .int .u64 oth] w fun e w' => e = .returned (.bool true) ∧ Below w.heap.size w w' := by
  go_enter Try.func9, Try.ntmps9
  go_wp2_with fail
  refine (new_any _ _).mono ?_
  rintro e w1 ⟨rfl, hb1⟩
  have B1 : Below w.heap.size w w1 := Below.trans (by repeat' (first | with_reducible exact rfl | with_reducible exact Below.refl _ _ | with_reducible refine Below.drew ?_ | with_reducible refine Below.alloc ?_ ?_ _ | with_reducible refine bset ?_ ?_ _ | omega | (simp <;> omega))) (hb1.mono (by first | omega | (simp <;> omega)))
  have hz1 := B1.size
  clear hb1
  go_wp2_with fail
  obtain ⟨g, eg⟩ : ∃ g, g = w1.heap.size := ⟨_, rfl⟩
  rw [← eg]
  have hg0 : Has (w1.alloc (.cells #[.int .u64 s] 24)) g #[.int .u64 s] 24 := Has.newAt eg
  have hb0 : Below w.heap.size w (w1.alloc (.cells #[.int .u64 s] 24)) := (by repeat' (first | with_reducible exact B1 | with_reducible exact Below.refl _ _ | with_reducible refine Below.drew ?_ | with_reducible refine Below.alloc ?_ ?_ _ | with_reducible refine bset ?_ ?_ _ | omega | (simp <;> omega)))
  have hgw : w.heap.size ≤ g := by rw [eg]; exact hz1
  clear B1 hz1 eg
  go_loopw [8] (fun i wr => ∃ k : Nat, k ≤ c ∧ i = .int .i64 k ∧ Has wr g #[.int .u64 (iterS k s)] 24 ∧ Below w.heap.size w wr) (fun i _ => c - (intOf i).toNat)
  case atStart => exact ⟨0, Nat.zero_le _, rfl, hg0, hb0⟩
  case round =>
    clear hg0 hb0
    obtain ⟨k, hk, rfl, hg, hb⟩ := hrel
    have lg := hg.lt
    have chg : wr.cell? ⟨g, 0, none⟩ = some (.int .u64 (iterS k s)) := hg.cell (j := 0) rfl
    have fhg : wr.frozen? ⟨g, 0, none⟩ = false := hg.free 0
    by_cases hlt : k < c
    · go_wp2_with fail
      refine (next_any _ _).mono ?_
      rintro e w2 ⟨rfl, hb2⟩
      have hg2 := hg.below hb2 lg
      have chg2 : w2.cell? ⟨g, 0, none⟩ = some (.int .u64 (iterS k s)) := hg2.cell (j := 0) rfl
      have fhg2 : w2.frozen? ⟨g, 0, none⟩ = false := hg2.free 0
      have hb3 := hb.trans (hb2.mono hb.size)
      go_wp2
      go_roundw
      case rel => exact ⟨k + 1, by omega, by go_num, by show Has _ g #[.int .u64 (nextS (iterS k s))] 24; exact (by repeat' (first | with_reducible exact hg2 | ((with_reducible refine Has.newAt ?_); (first | omega | (simp; done) | (simp; omega))) | with_reducible refine Has.drew ?_ | with_reducible refine Has.alloc ?_ _ | with_reducible refine Has.one ?_ _ | with_reducible refine Has.other ?_ ?_ _ | with_reducible exact Has1.of hg2 | ((with_reducible refine Has1.newAt ?_); (first | omega | (simp; done) | (simp; omega))) | with_reducible refine Has1.drew ?_ | with_reducible refine Has1.alloc ?_ _ | with_reducible refine Has1.set ?_ _ | with_reducible refine Has1.other ?_ ?_ _ | omega | (simp <;> omega))), (by repeat' (first | with_reducible exact hb3 | with_reducible exact Below.refl _ _ | with_reducible refine Below.drew ?_ | with_reducible refine Below.alloc ?_ ?_ _ | with_reducible refine bset ?_ ?_ _ | omega | (simp <;> omega)))⟩
      case measure => simp [intOf]; omega
    · obtain rfl : k = c := by omega
      have hz0 := hb.size
      obtain ⟨x, ex⟩ : ∃ x, x = iterS k s := ⟨_, rfl⟩
      rw [← ex] at hg chg
      have Ex := hid ex
      clear ex
      go_wp2_with fail
      have he : IntKind.u64.wrap (s + IntKind.u64.wrap ((k : Int) * 11400714819323198485)) = x := by rw [Ex.out, iterS_eq s hs.out k]
      rw [he]
      clear he
      have g_10 := hg
      clear hg chg fhg hlt
      have Lg_10 := g_10.lt
      refine (new_any _ _).mono ?_
      rintro e w11 ⟨rfl, hb11⟩
      have g_11 : Has w11 (g) #[.int .u64 x] 24 := Has.below (by repeat' (first | with_reducible exact g_10 | ((with_reducible refine Has.newAt ?_); (first | omega | (simp; done) | (simp; omega))) | with_reducible refine Has.drew ?_ | with_reducible refine Has.alloc ?_ _ | with_reducible refine Has.one ?_ _ | with_reducible refine Has.other ?_ ?_ _ | with_reducible exact Has1.of g_10 | ((with_reducible refine Has1.newAt ?_); (first | omega | (simp; done) | (simp; omega))) | with_reducible refine Has1.drew ?_ | with_reducible refine Has1.alloc ?_ _ | with_reducible refine Has1.set ?_ _ | with_reducible refine Has1.other ?_ ?_ _ | omega | (simp <;> omega))) hb11 (by first | omega | (simp <;> omega))
      have Lg_11 := g_11.lt
      have B11 : Below w.heap.size w w11 := Below.trans (by repeat' (first | with_reducible exact hb | with_reducible exact Below.refl _ _ | with_reducible refine Below.drew ?_ | with_reducible refine Below.alloc ?_ ?_ _ | with_reducible refine bset ?_ ?_ _ | omega | (simp <;> omega))) (hb11.mono (by first | omega | (simp <;> omega)))
      have hz11 := B11.size
      clear hb11 g_10 Lg_10 hb
      have cg_11 : w11.cell? ⟨g, 0, none⟩ = some (.int .u64 x) := g_11.cell (j := 0) rfl
      have fg_11 : w11.frozen? ⟨g, 0, none⟩ = false := g_11.free 0
      go_wp2_with fail
      refine (next_any _ _).mono ?_
      rintro e w12 ⟨rfl, hb12⟩
      have g_12 : Has w12 (g) #[.int .u64 x] 24 := Has.below (by repeat' (first | with_reducible exact g_11 | ((with_reducible refine Has.newAt ?_); (first | omega | (simp; done) | (simp; omega))) | with_reducible refine Has.drew ?_ | with_reducible refine Has.alloc ?_ _ | with_reducible refine Has.one ?_ _ | with_reducible refine Has.other ?_ ?_ _ | with_reducible exact Has1.of g_11 | ((with_reducible refine Has1.newAt ?_); (first | omega | (simp; done) | (simp; omega))) | with_reducible refine Has1.drew ?_ | with_reducible refine Has1.alloc ?_ _ | with_reducible refine Has1.set ?_ _ | with_reducible refine Has1.other ?_ ?_ _ | omega | (simp <;> omega))) hb12 (by first | omega | (simp <;> omega))
      have Lg_12 := g_12.lt
      have h_12 : Has w12 (w11.heap.size) #[.int .u64 x] 24 := Has.below (by repeat' (first | with_reducible exact rfl | ((with_reducible refine Has.newAt ?_); (first | omega | (simp; done) | (simp; omega))) | with_reducible refine Has.drew ?_ | with_reducible refine Has.alloc ?_ _ | with_reducible refine Has.one ?_ _ | with_reducible refine Has.other ?_ ?_ _ | with_reducible exact Has1.of rfl | ((with_reducible refine Has1.newAt ?_); (first | omega | (simp; done) | (simp; omega))) | with_reducible refine Has1.drew ?_ | with_reducible refine Has1.alloc ?_ _ | with_reducible refine Has1.set ?_ _ | with_reducible refine Has1.other ?_ ?_ _ | omega | (simp <;> omega))) hb12 (by first | omega | (simp <;> omega))
      have Lh_12 := h_12.lt
      have B12 : Below w.heap.size w w12 := Below.trans (by repeat' (first | with_reducible exact B11 | with_reducible exact Below.refl _ _ | with_reducible refine Below.drew ?_ | with_reducible refine Below.alloc ?_ ?_ _ | with_reducible refine bset ?_ ?_ _ | omega | (simp <;> omega))) (hb12.mono (by first | omega | (simp <;> omega)))
      have hz12 := B12.size
      clear hb12 g_11 Lg_11 B11
      go_wp2_with fail
      refine (new_any _ _).mono ?_
      rintro e w13 ⟨rfl, hb13⟩
      have g_13 : Has w13 (g) #[.int .u64 x] 24 := Has.below (by repeat' (first | with_reducible exact g_12 | ((with_reducible refine Has.newAt ?_); (first | omega | (simp; done) | (simp; omega))) | with_reducible refine Has.drew ?_ | with_reducible refine Has.alloc ?_ _ | with_reducible refine Has.one ?_ _ | with_reducible refine Has.other ?_ ?_ _ | with_reducible exact Has1.of g_12 | ((with_reducible refine Has1.newAt ?_); (first | omega | (simp; done) | (simp; omega))) | with_reducible refine Has1.drew ?_ | with_reducible refine Has1.alloc ?_ _ | with_reducible refine Has1.set ?_ _ | with_reducible refine Has1.other ?_ ?_ _ | omega | (simp <;> omega))) hb13 (by first | omega | (simp <;> omega))
      have Lg_13 := g_13.lt
      have h_13 : Has w13 (w11.heap.size) #[.int .u64 x] 24 := Has.below (by repeat' (first | with_reducible exact h_12 | ((with_reducible refine Has.newAt ?_); (first | omega | (simp; done) | (simp; omega))) | with_reducible refine Has.drew ?_ | with_reducible refine Has.alloc ?_ _ | with_reducible refine Has.one ?_ _ | with_reducible refine Has.other ?_ ?_ _ | with_reducible exact Has1.of h_12 | ((with_reducible refine Has1.newAt ?_); (first | omega | (simp; done) | (simp; omega))) | with_reducible refine Has1.drew ?_ | with_reducible refine Has1.alloc ?_ _ | with_reducible refine Has1.set ?_ _ | with_reducible refine Has1.other ?_ ?_ _ | omega | (simp <;> omega))) hb13 (by first | omega | (simp <;> omega))
      have Lh_13 := h_13.lt
      have B13 : Below w.heap.size w w13 := Below.trans (by repeat' (first | with_reducible exact B12 | with_reducible exact Below.refl _ _ | with_reducible refine Below.drew ?_ | with_reducible refine Below.alloc ?_ ?_ _ | with_reducible refine bset ?_ ?_ _ | omega | (simp <;> omega))) (hb13.mono (by first | omega | (simp <;> omega)))
      have hz13 := B13.size
      clear hb13 g_12 h_12 Lg_12 Lh_12 B12
      go_wp2_with fail
      refine (next_any _ _).mono ?_
      rintro e w14 ⟨rfl, hb14⟩
      have g_14 : Has w14 (g) #[.int .u64 x] 24 := Has.below (by repeat' (first | with_reducible exact g_13 | ((with_reducible refine Has.newAt ?_); (first | omega | (simp; done) | (simp; omega))) | with_reducible refine Has.drew ?_ | with_reducible refine Has.alloc ?_ _ | with_reducible refine Has.one ?_ _ | with_reducible refine Has.other ?_ ?_ _ | with_reducible exact Has1.of g_13 | ((with_reducible refine Has1.newAt ?_); (first | omega | (simp; done) | (simp; omega))) | with_reducible refine Has1.drew ?_ | with_reducible refine Has1.alloc ?_ _ | with_reducible refine Has1.set ?_ _ | with_reducible refine Has1.other ?_ ?_ _ | omega | (simp <;> omega))) hb14 (by first | omega | (simp <;> omega))
      have Lg_14 := g_14.lt
      have h_14 : Has w14 (w11.heap.size) #[.int .u64 x] 24 := Has.below (by repeat' (first | with_reducible exact h_13 | ((with_reducible refine Has.newAt ?_); (first | omega | (simp; done) | (simp; omega))) | with_reducible refine Has.drew ?_ | with_reducible refine Has.alloc ?_ _ | with_reducible refine Has.one ?_ _ | with_reducible refine Has.other ?_ ?_ _ | with_reducible exact Has1.of h_13 | ((with_reducible refine Has1.newAt ?_); (first | omega | (simp; done) | (simp; omega))) | with_reducible refine Has1.drew ?_ | with_reducible refine Has1.alloc ?_ _ | with_reducible refine Has1.set ?_ _ | with_reducible refine Has1.other ?_ ?_ _ | omega | (simp <;> omega))) hb14 (by first | omega | (simp <;> omega))
      have Lh_14 := h_14.lt
      have B14 : Below w.heap.size w w14 := Below.trans (by repeat' (first | with_reducible exact B13 | with_reducible exact Below.refl _ _ | with_reducible refine Below.drew ?_ | with_reducible refine Below.alloc ?_ ?_ _ | with_reducible refine bset ?_ ?_ _ | omega | (simp <;> omega))) (hb14.mono (by first | omega | (simp <;> omega)))
      have hz14 := B14.size
      clear hb14 g_13 h_13 Lg_13 Lh_13 B13
      have ch_14 : w14.cell? ⟨w11.heap.size, 0, none⟩ = some (.int .u64 x) := h_14.cell (j := 0) rfl
      have fh_14 : w14.frozen? ⟨w11.heap.size, 0, none⟩ = false := h_14.free 0
      go_wp2_with fail
      refine (next_any _ _).mono ?_
      rintro e w15 ⟨rfl, hb15⟩
      have g_15 : Has w15 (g) #[.int .u64 x] 24 := Has.below (by repeat' (first | with_reducible exact g_14 | ((with_reducible refine Has.newAt ?_); (first | omega | (simp; done) | (simp; omega))) | with_reducible refine Has.drew ?_ | with_reducible refine Has.alloc ?_ _ | with_reducible refine Has.one ?_ _ | with_reducible refine Has.other ?_ ?_ _ | with_reducible exact Has1.of g_14 | ((with_reducible refine Has1.newAt ?_); (first | omega | (simp; done) | (simp; omega))) | with_reducible refine Has1.drew ?_ | with_reducible refine Has1.alloc ?_ _ | with_reducible refine Has1.set ?_ _ | with_reducible refine Has1.other ?_ ?_ _ | omega | (simp <;> omega))) hb15 (by first | omega | (simp <;> omega))
      have Lg_15 := g_15.lt
      have h_15 : Has w15 (w11.heap.size) #[.int .u64 x] 24 := Has.below (by repeat' (first | with_reducible exact h_14 | ((with_reducible refine Has.newAt ?_); (first | omega | (simp; done) | (simp; omega))) | with_reducible refine Has.drew ?_ | with_reducible refine Has.alloc ?_ _ | with_reducible refine Has.one ?_ _ | with_reducible refine Has.other ?_ ?_ _ | with_reducible exact Has1.of h_14 | ((with_reducible refine Has1.newAt ?_); (first | omega | (simp; done) | (simp; omega))) | with_reducible refine Has1.drew ?_ | with_reducible refine Has1.alloc ?_ _ | with_reducible refine Has1.set ?_ _ | with_reducible refine Has1.other ?_ ?_ _ | omega | (simp <;> omega))) hb15 (by first | omega | (simp <;> omega))
      have Lh_15 := h_15.lt
      have B15 : Below w.heap.size w w15 := Below.trans (by repeat' (first | with_reducible exact B14 | with_reducible exact Below.refl _ _ | with_reducible refine Below.drew ?_ | with_reducible refine Below.alloc ?_ ?_ _ | with_reducible refine bset ?_ ?_ _ | omega | (simp <;> omega))) (hb15.mono (by first | omega | (simp <;> omega)))
      have hz15 := B15.size
      clear hb15 g_14 h_14 Lg_14 Lh_14 B14
      have ch_15 : w15.cell? ⟨w11.heap.size, 0, none⟩ = some (.int .u64 x) := h_15.cell (j := 0) rfl
      have fh_15 : w15.frozen? ⟨w11.heap.size, 0, none⟩ = false := h_15.free 0
      have cg_15 : w15.cell? ⟨g, 0, none⟩ = some (.int .u64 x) := g_15.cell (j := 0) rfl
      have fg_15 : w15.frozen? ⟨g, 0, none⟩ = false := g_15.free 0
      go_wp2_with fail
      refine (awake_any _).mono ?_
      rintro e w16 ⟨rfl, hb16⟩
      have g_16 : Has w16 (g) #[.int .u64 x] 24 := Has.below (by repeat' (first | with_reducible exact g_15 | ((with_reducible refine Has.newAt ?_); (first | omega | (simp; done) | (simp; omega))) | with_reducible refine Has.drew ?_ | with_reducible refine Has.alloc ?_ _ | with_reducible refine Has.one ?_ _ | with_reducible refine Has.other ?_ ?_ _ | with_reducible exact Has1.of g_15 | ((with_reducible refine Has1.newAt ?_); (first | omega | (simp; done) | (simp; omega))) | with_reducible refine Has1.drew ?_ | with_reducible refine Has1.alloc ?_ _ | with_reducible refine Has1.set ?_ _ | with_reducible refine Has1.other ?_ ?_ _ | omega | (simp <;> omega))) hb16 (by first | omega | (simp <;> omega))
      have Lg_16 := g_16.lt
      have h_16 : Has w16 (w11.heap.size) #[.int .u64 x] 24 := Has.below (by repeat' (first | with_reducible exact h_15 | ((with_reducible refine Has.newAt ?_); (first | omega | (simp; done) | (simp; omega))) | with_reducible refine Has.drew ?_ | with_reducible refine Has.alloc ?_ _ | with_reducible refine Has.one ?_ _ | with_reducible refine Has.other ?_ ?_ _ | with_reducible exact Has1.of h_15 | ((with_reducible refine Has1.newAt ?_); (first | omega | (simp; done) | (simp; omega))) | with_reducible refine Has1.drew ?_ | with_reducible refine Has1.alloc ?_ _ | with_reducible refine Has1.set ?_ _ | with_reducible refine Has1.other ?_ ?_ _ | omega | (simp <;> omega))) hb16 (by first | omega | (simp <;> omega))
      have Lh_16 := h_16.lt
      have B16 : Below w.heap.size w w16 := Below.trans (by repeat' (first | with_reducible exact B15 | with_reducible exact Below.refl _ _ | with_reducible refine Below.drew ?_ | with_reducible refine Below.alloc ?_ ?_ _ | with_reducible refine bset ?_ ?_ _ | omega | (simp <;> omega))) (hb16.mono (by first | omega | (simp <;> omega)))
      have hz16 := B16.size
      clear hb16 g_15 h_15 Lg_15 Lh_15 B15
      go_wp2_with fail
      go_ret
      exact ⟨rfl, (by repeat' (first | with_reducible exact B16 | with_reducible exact Below.refl _ _ | with_reducible refine Below.drew ?_ | with_reducible refine Below.alloc ?_ ?_ _ | with_reducible refine bset ?_ ?_ _ | omega | (simp <;> omega)))⟩
end Go.Proofs.Ytaekpkedjeefcaa
