/-
  The walk of Check, of the reference.
-/
import Derived.Test.YtkdfplnoldckgaaRows
import Derived.Test.YtkdfplnoldckgaaSMem
import Derived.Test.YtkdfplnoldckgaaSPlain5
import Derived.Test.YtkdfplnoldckgaaSPlain9
import Derived.Test.YtkdfplnoldckgaaS3
import Derived.Test.YtkdfplnoldckgaaS28
import Derived.WalkKit
import Derived.ProofKit
import Derived.OpenShut
import Derived.Deep.DeepMust
import Derived.Outline
namespace Go.Proofs.Ytkdfplnoldckgaa
open Go.ChangeShapes Go.WideShapes Go.ChangeAt Go.RowKit

theorem pairE_zero {N : Int} {seen s x : List Int} (h : pairE N seen x = (0, s)) : s = seen ++ x ∧ x.length ≤ 4 := by
  unfold pairE at h
  split at h
  · cases h
  · split at h
    · cases h
    · split at h
      · cases h
      · rename_i s' hs
        cases h
        exact ⟨seatsE_some _ _ _ hs, by omega⟩
theorem rcheck_range (ad : Option Addr) (n cap : Nat) (N : Int) (L : List (List (List Int))) (w : World) (h : N < 1 ∨ 16 < N) :
    Calls Try.prog 23 #[.slice ad n cap, .int .i64 N] w fun e w' => e = .returned (.int .i64 (checkE N L)) ∧ Below w.heap.size w w' := by
  have hE : checkE N L = 12 := by unfold checkE; rw [if_pos h]
  rw [hE]
  rcases h with h | h
  · go_enter Try.func23, Try.ntmps23
    go_wp2
    go_ret
    exact ⟨rfl, Below.refl _ _⟩
  · have h1 : ¬ N < 1 := by omega
    go_enter Try.func23, Try.ntmps23
    go_wp2
    go_ret
    exact ⟨rfl, Below.refl _ _⟩
set_option maxHeartbeats 4000000 in
theorem rcheck_some (ad : Option Addr) (n cap : Nat) (N : Int) (L : List (List (List Int))) (w : World) (h1 : 1 ≤ N) (h2 : N ≤ 16) (hm : Modest49 L) (h : HeldL RoundC w ad n cap L) :
    Calls Try.prog 23 #[.slice ad n cap, .int .i64 N] w fun e w' => e = .returned (.int .i64 (checkE N L)) ∧ Below w.heap.size w w' := by
  obtain ⟨i0, hi, hz0, hz1, hz2⟩ := info_parts info_int
  have hl := hid h.len
  have hnm : n ≤ 10000 := by rw [← hl.out]; exact hm.1
  have HL := hid hm.2
  have hE0 := hid (show checkE N L = checkR N L by unfold checkE; rw [if_neg (by omega)])
  have g1 : ¬ N < 1 := by omega
  have g2 : ¬ 16 < N := by omega
  clear hm
  go_enter Try.func23, Try.ntmps23
  go_wp2
  go_loopw [5] (fun i wr => ∃ k : Nat, k ≤ n ∧ i = .int .i64 k ∧ Hid (checkR N L = checkR N (L.drop k)) ∧ Below w.heap.size w wr) (fun i _ => n - (intOf i).toNat)
  case atStart => exact ⟨0, Nat.zero_le _, rfl, hid rfl, Below.refl _ _⟩
  case round =>
    obtain ⟨k, hk, rfl, hf, hbO⟩ := hrel
    obtain ⟨wo, ewo⟩ : ∃ wo : World, wo = wr := ⟨_, rfl⟩
    rw [← ewo] at hbO ⊢
    clear ewo
    by_cases hlt : k < n
    · have hho := h.below hbO (Nat.le_refl _)
      obtain ⟨b, o, rfl⟩ := hho.head (by omega)
      obtain ⟨ar, nr, cr, hc, hR⟩ := hho.elem k hlt
      have hk0 : (0 : Int) ≤ k := by omega
      have hkn : (k : Int) < n := by omega
      obtain ⟨r, er⟩ : ∃ r, r = L.getD k [] := ⟨_, rfl⟩
      have hstop := hid (fun c => @checkR_stop N c L k (by rw [hl.out]; exact hlt))
      have hgo := hid (@checkR_go N L k (by rw [hl.out]; exact hlt))
      rw [← er] at hR hstop hgo
      have hrl := hid hR.len
      have hnr : nr ≤ 1000 := by rw [← hrl.out, er]; exact (HL.out _ (getD_mem (by rw [hl.out]; exact hlt))).1
      clear er hho
      go_wp2
      go_loopw [6, 7] (fun v i wr => ∃ (j : Nat) (seen : List Int), j ≤ nr ∧ i = .int .i64 j ∧ OwnL IntC wo.heap.size 3 wr v seen ∧ Hid (seen.length ≤ 4 * j) ∧ Hid (roundE N [] r = roundE N seen (r.drop j)) ∧ Below wo.heap.size wo wr) (fun _ i _ => nr - (intOf i).toNat)
      case atStart => exact ⟨0, [], Nat.zero_le _, rfl, OwnL.nil _ _ _ _, hid (Nat.le_refl _), hid rfl, Below.refl _ _⟩
      case round =>
        obtain ⟨j, seen, hj, rfl, own, hsl, hf2, hb⟩ := hrel
        have hc' := (hb.cell (p := ⟨b, o + k, none⟩) (lt_of_cell hc)).trans hc
        have hbT := hbO.trans (hb.mono hbO.size)
        by_cases hjl : j < nr
        · have hRw := hR.below hb (Nat.le_refl _)
          obtain ⟨b2, o2, rfl⟩ := hRw.head (by omega)
          obtain ⟨ae, me, ce, hc2, hE⟩ := hRw.elem j hjl
          have hj0 : (0 : Int) ≤ j := by omega
          have hjn : (j : Int) < nr := by omega
          obtain ⟨x, ex⟩ : ∃ x, x = r.getD j [] := ⟨_, rfl⟩
          have hst := hid (fun c s => @roundE_stop N seen s r j c (by rw [hrl.out]; exact hjl))
          have hgo2 := hid (fun s => @roundE_go N seen s r j (by rw [hrl.out]; exact hjl))
          rw [← ex] at hE hst hgo2
          obtain ⟨a1, c1, rfl, hS⟩ := own.slice
          obtain ⟨l1, el1⟩ : ∃ l1, l1 = seen.length := ⟨_, rfl⟩
          rw [← el1] at hS ⊢ own
          have El1 := hid el1
          obtain ⟨c, s', hcs⟩ : ∃ c s', pairE N seen x = (c, s') := ⟨_, _, rfl⟩
          have Hcs := hid hcs
          have Hc1 := hid (show (pairE N seen x).1 = c by rw [hcs])
          clear ex el1 hcs hRw
          go_wp2_with fail
          refine (rpairing_any ae a1 me ce l1 c1 N seen x _ hE hS).mono ?_
          rintro e w2 ⟨rfl, bp⟩
          rw [Hc1.out]
          have hcA := (bp.cell (p := ⟨b, o + k, none⟩) (lt_of_cell hc')).trans hc'
          have hcB := (bp.cell (p := ⟨b2, o2 + j, none⟩) (lt_of_cell hc2)).trans hc2
          have hE2 := hE.below bp (Nat.le_refl _)
          have own2 := own.below bp (Nat.le_refl _)
          have hb2 := hb.trans (bp.mono hb.size)
          have hbT2 := hbT.trans (bp.mono hbT.size)
          have hxl := hid hE2.len
          clear hE hS own bp hc' hc2
          by_cases hc0 : c = 0
          · subst hc0
            have hz := hid (pairE_zero Hcs.out)
            have hn2 := hid (hgo2.out _ Hcs.out)
            have hs2 := hb2.size
            have hm4 : me ≤ 4 := by rw [← hxl.out]; exact hz.out.2
            have hl4 : l1 ≤ 4 * j := by rw [El1.out]; exact hsl.out
            go_wp2_with (at_builtin; go_must (refine wpList_append_run rfl (.tmp 43) (.tmp 51) 36 rfl (.slice a1 l1 c1) (.slice ae me ce) (by rfl) (by rfl) (run_append_ints _ wo.heap.size 36 _ 3 i0 _ 8 Try.underlying36 hi hz0 hz1 hz2 rfl _ seen own2 _ me _ x hE2 (by rw [← El1.out, maxLen_eq]; omega) (by rw [← El1.out]; omega) hs2) ?_); rintro v3 w3 ⟨own3, b3, _, _⟩)
            go_wp2
            go_roundw
            case rel => exact ⟨j + 1, seen ++ x, by omega, by go_num, own3, hid (by rw [List.length_append, ← El1.out, hxl.out]; omega), hid (by rw [hf2.out, hn2.out, hz.out.1]), hb2.trans b3⟩
            case measure => simp [intOf]; omega
          · have hr := hid (hstop.out c (hf2.out.trans (hst.out c s' Hcs.out hc0)) hc0)
            have hcb : (c != 0) = true := by simpa using hc0
            go_wp2
            go_ret
            exact ⟨ret_int (by rw [hE0.out, hf.out, hr.out]), hbT2⟩
        · obtain rfl : j = nr := by omega
          have hr := hid (hgo.out (hf2.out.trans (roundE_end (by rw [hrl.out]; exact Nat.le_refl _))))
          clear own
          go_wp2
          go_roundw
          case rel => exact ⟨k + 1, by omega, by go_num, hid (by rw [hf.out, hr.out]), hbT⟩
          case measure => simp [intOf]; omega
    · obtain rfl : k = n := by omega
      have hr := hid (hf.out.trans (checkR_end (by rw [hl.out]; exact Nat.le_refl _)))
      go_wp2
      go_ret
      exact ⟨ret_int (by rw [hE0.out, hr.out]), hbO⟩
theorem rcheck_any (ad : Option Addr) (n cap : Nat) (N : Int) (L : List (List (List Int))) (w : World) (hm : Modest49 L) (h : HeldL RoundC w ad n cap L) :
    Calls Try.prog 23 #[.slice ad n cap, .int .i64 N] w fun e w' => e = .returned (.int .i64 (checkE N L)) ∧ Below w.heap.size w w' := by
  by_cases h1 : N < 1 ∨ 16 < N
  · exact rcheck_range ad n cap N L w h1
  · exact rcheck_some ad n cap N L w (by omega) (by omega) hm h
end Go.Proofs.Ytkdfplnoldckgaa
