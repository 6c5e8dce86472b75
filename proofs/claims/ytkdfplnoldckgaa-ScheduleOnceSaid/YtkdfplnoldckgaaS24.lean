/-
  The walk of Double, of the program.
-/
import Derived.Test.YtkdfplnoldckgaaRows
import Derived.Test.YtkdfplnoldckgaaSMem
import Derived.Test.YtkdfplnoldckgaaSPlain9
import Derived.Test.YtkdfplnoldckgaaS3
import Derived.WalkKit
import Derived.ProofKit
import Derived.OpenShut
import Derived.Deep.DeepMust
import Derived.Outline
namespace Go.Proofs.Ytkdfplnoldckgaa
open Go.ChangeShapes Go.WideShapes Go.ChangeAt Go.RowKit

set_option maxHeartbeats 8000000 in
theorem double_any (ad : Option Addr) (n cap : Nat) (L : List (List (List Int))) (w : World) (hL : Modest49 L) (h : HeldL RoundC w ad n cap L) :
    Calls Try.prog 20 #[.slice ad n cap] w fun e w' => ∃ v, e = .returned v ∧ OwnL RoundC w.heap.size 30 w' v (dblL L) ∧ Below w.heap.size w w' := by
  obtain ⟨i0, hi, hz0, hz1, hz2⟩ := info_parts info_pairing
  obtain ⟨i1, gi, gz0, gz1, gz2⟩ := info_parts info_round
  have hl := hid h.len
  have hle := h.le
  have hmx := h.max
  have hnm : n ≤ 10000 := by rw [← hl.out]; exact hL.1
  have HL := hid hL.2
  clear hL
  go_enter Try.func20, Try.ntmps20
  go_wp2
  go_loopw [3, 10] (fun v i wr => ∃ s : Nat, s ≤ 2 ∧ i = .int .i64 s ∧ OwnL RoundC w.heap.size 30 wr v (dblS L s) ∧ Below w.heap.size w wr) (fun _ i _ => 2 - (intOf i).toNat)
  case atStart => exact ⟨0, Nat.zero_le _, rfl, OwnL.nil _ _ _ _, Below.refl _ _⟩
  case round =>
    obtain ⟨s, hs, rfl, ownA, hbA⟩ := hrel
    by_cases hs2 : s < 2
    · have hs0 : (0 : Int) ≤ s := by omega
      have hs2' : (s : Int) < 2 := by omega
      go_wp2
      go_loopw [3, 15] (fun v i wr => ∃ k : Nat, k ≤ n ∧ i = .int .i64 k ∧ OwnL RoundC w.heap.size 30 wr v (dblS L s ++ (L.take k).map (dblR s)) ∧ Below w.heap.size w wr) (fun _ i _ => n - (intOf i).toNat)
      case atStart => exact ⟨0, Nat.zero_le _, rfl, by simpa using ownA, hbA⟩
      case round =>
        clear ownA hbA
        obtain ⟨k, hk, rfl, ownO, hbO⟩ := hrel
        obtain ⟨wo, ewo⟩ : ∃ wo : World, wo = wr := ⟨_, rfl⟩
        rw [← ewo] at ownO hbO ⊢
        clear ewo
        by_cases hlt : k < n
        · have hho := h.below hbO (Nat.le_refl _)
          obtain ⟨b, o, rfl⟩ := hho.head (by omega)
          obtain ⟨ar, nr, cr, hc, hR⟩ := hho.elem k hlt
          have hk0 : (0 : Int) ≤ k := by omega
          have hkn : (k : Int) < n := by omega
          obtain ⟨r, er⟩ : ∃ r, r = L.getD k [] := ⟨_, rfl⟩
          rw [← er] at hR
          have hrl := hid hR.len
          have hrle := hR.le
          have hrmx := hR.max
          have hrm := HL.out r (by rw [er]; exact getD_mem (by rw [hl.out]; exact hlt))
          have hnr : nr ≤ 1000 := by rw [← hrl.out]; exact hrm.1
          have Hrm := hid hrm.2
          have hst := hid (show dblS L s ++ (L.take (k + 1)).map (dblR s) = dblS L s ++ (L.take k).map (dblR s) ++ [dblR s r] by rw [map_take (dblR s) L k [] (by rw [hl.out]; exact hlt), er, List.append_assoc])
          have hln := hid (show (dblS L s ++ (L.take k).map (dblR s)).length ≤ 20000 + k by rw [List.length_append, dblS_length, List.length_map, List.length_take, hl.out]; have : s * n ≤ 2 * n := Nat.mul_le_mul_right _ hs; omega)
          obtain ⟨D, eD⟩ : ∃ D, D = dblS L s ++ (L.take k).map (dblR s) := ⟨_, rfl⟩
          rw [← eD] at ownO hst hln
          have bso := hbO.size
          clear er eD hrm hho
          go_wp2
          go_loopw [7, 21] (fun v i wr => ∃ j : Nat, j ≤ nr ∧ i = .int .i64 j ∧ OwnL IntsC wo.heap.size 38 wr v ((r.take j).map (rotL · s)) ∧ Below wo.heap.size wo wr) (fun _ i _ => nr - (intOf i).toNat)
          case atStart => exact ⟨0, Nat.zero_le _, rfl, OwnL.nil _ _ _ _, Below.refl _ _⟩
          case round =>
            obtain ⟨j, hj, rfl, own, hb⟩ := hrel
            have hc' := (hb.cell (p := ⟨b, o + k, none⟩) (lt_of_cell hc)).trans hc
            by_cases hjl : j < nr
            · have hRw := hR.below hb (Nat.le_refl _)
              obtain ⟨b2, o2, rfl⟩ := hRw.head (by omega)
              obtain ⟨ae, me, ce, hc2, hE⟩ := hRw.elem j hjl
              have hj0 : (0 : Int) ≤ j := by omega
              have hjn : (j : Int) < nr := by omega
              obtain ⟨x, ex⟩ : ∃ x, x = r.getD j [] := ⟨_, rfl⟩
              rw [← ex] at hE
              have hjr : j < r.length := by rw [hrl.out]; exact hjl
              have hmm : me ≤ 1000 := by rw [← hE.len, ex]; exact Hrm.out _ (getD_mem hjr)
              have hst2 := hid (show (r.take (j + 1)).map (rotL · s) = (r.take j).map (rotL · s) ++ [rotL x s] by rw [map_take (rotL · s) r j [] hjr, ex])
              have hln2 := hid (show ((r.take j).map (rotL · s)).length = j by rw [List.length_map, List.length_take]; omega)
              obtain ⟨D2, eD2⟩ : ∃ D2, D2 = (r.take j).map (rotL · s) := ⟨_, rfl⟩
              rw [← eD2] at own hst2 hln2
              have bsi := hb.size
              have bW : Below wr.heap.size wr (wr.alloc (.cells #[.slice ae me ce] 38)) := (Below.refl _ _).alloc (Nat.le_refl _) _
              have hEW := hE.below bW (Nat.le_refl _)
              have ownW := own.below bW (Nat.le_refl _)
              have hbW := hb.trans (bW.mono bsi)
              have hWs := bW.size
              clear ex eD2 hRw hE hjr own hb bW
              go_wp2_with fail
              refine (rotated_any ae me ce s x _ hmm (by omega) hEW).mono ?_
              rintro e w2 ⟨v2, rfl, own2, b2'⟩
              rw [Int.toNat_natCast] at own2
              have hb2 := hbW.trans (b2'.mono hbW.size)
              have own3 := ownW.below b2' (Nat.le_refl _)
              obtain ⟨a2, c2, rfl, z2⟩ := own2.slice
              have hR2 := own2.rests
              obtain ⟨l2, el2⟩ : ∃ l2, l2 = (rotL x s).length := ⟨_, rfl⟩
              rw [← el2] at hR2 ⊢
              have hgl := own3.lt
              have hgo := ownW.lt
              have b2s := hb2.size
              have hR4 : Rests IntsC (fun g => wo.heap.size ≤ g ∧ u7.ownBlock ≠ some g) (w2.alloc (.cells #[.slice a2 l2 c2] 38)) (.slice a2 l2 c2) (rotL x s) := (hR2.weak fun g _ hs => ⟨Nat.le_trans hbW.size hs, fun e => by have := (hgo g e).2; omega⟩).alloc _
              have own4 := own3.alloc (.cells #[.slice a2 l2 c2] 38)
              have hb4 := hb2.alloc b2s (.cells #[.slice a2 l2 c2] 38)
              clear own2 own3 ownW hEW hbW hb2 b2' z2 el2 hR2 hc2 hc'
              go_wp2_with (at_builtin; go_must (refine wpList_append_run rfl (.tmp 25) (.tmp 31) 30 rfl u7 (.slice (some ⟨w2.heap.size, 0, none⟩) 1 1) (by rfl) (by rfl) (run_append1 _ wo.heap.size 30 _ 38 i0 _ 24 Try.underlying30 hi hz0 hz1 hz2 rfl _ D2 own4 w2.heap.size 1 (.slice a2 l2 c2) (rotL x s) (by simp) rfl hR4 (by rw [hln2.out, maxLen_eq]; omega) (by rw [hln2.out]; omega) (by simp; omega)) ?_); rintro v5 w5 ⟨own5, b5, _, _⟩)
              have hb5 := hb4.trans b5
              clear own4 hb4 b5 hR4
              go_wp2
              go_roundw
              case rel => exact ⟨j + 1, by omega, by go_num, by rw [hst2.out]; exact own5, hb5⟩
              case measure => simp [intOf]; omega
            · obtain rfl : nr = j := by omega
              rw [List.take_of_length_le (by rw [hrl.out]; exact Nat.le_refl _)] at own
              replace own : OwnL IntsC wo.heap.size 38 wr u7 (dblR s r) := own
              obtain ⟨a3, c3, rfl, z3⟩ := own.slice
              have hR3 := own.rests
              have hd3 : (dblR s r).length = nr := by rw [dblR, List.length_map, hrl.out]
              rw [hd3] at hR3 ⊢
              have ownO3 := (ownO.below hb (Nat.le_refl _)).alloc (.cells #[.slice a3 nr c3] 30)
              have hgO := ownO.lt
              have hbs := hb.size
              have hR4 : Rests RoundC (fun g => w.heap.size ≤ g ∧ u3.ownBlock ≠ some g) (wr.alloc (.cells #[.slice a3 nr c3] 30)) (.slice a3 nr c3) (dblR s r) := (hR3.weak fun g _ hs => ⟨Nat.le_trans bso hs, fun e => by have := (hgO g e).2; omega⟩).alloc _
              have hbT := hbO.trans (hb.mono bso)
              have hb4 := hbT.alloc hbT.size (.cells #[.slice a3 nr c3] 30)
              clear own ownO hb hbO z3 hR3 hd3 hbT
              go_wp2_with (at_builtin; go_must (refine wpList_append_run rfl (.tmp 34) (.tmp 36) 22 rfl u3 (.slice (some ⟨wr.heap.size, 0, none⟩) 1 1) (by rfl) (by rfl) (run_append1 _ w.heap.size 22 _ 30 i1 _ 24 Try.underlying22 gi gz0 gz1 gz2 rfl _ D ownO3 wr.heap.size 1 (.slice a3 nr c3) (dblR s r) (by simp) rfl hR4 (by have := hln.out; rw [maxLen_eq]; omega) (by have := hln.out; omega) (by simp; omega)) ?_); rintro v5 w5 ⟨own5, b5, _, _⟩)
              have hb5 := hb4.trans b5
              clear ownO3 hb4 b5 hR4
              go_wp2
              go_roundw
              case rel => exact ⟨k + 1, by omega, by go_num, by rw [hst.out]; exact own5, hb5⟩
              case measure => simp [intOf]; omega
        · obtain rfl : n = k := by omega
          rw [List.take_of_length_le (by rw [hl.out]; exact Nat.le_refl _), ← dblS_succ] at ownO
          go_wp2
          go_roundw
          case rel => exact ⟨s + 1, by omega, by go_num, ownO, hbO⟩
          case measure => simp [intOf]; omega
    · obtain rfl : s = 2 := by omega
      go_wp2
      go_ret
      exact ⟨_, rfl, ownA, hbA⟩
end Go.Proofs.Ytkdfplnoldckgaa
