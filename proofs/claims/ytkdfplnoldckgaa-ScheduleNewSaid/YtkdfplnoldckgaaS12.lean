/-
  The walk of Meetings.
-/
import Derived.Test.YtkdfplnoldckgaaRows
import Derived.Test.YtkdfplnoldckgaaSMem
import Derived.Test.YtkdfplnoldckgaaSPlain4
import Derived.Test.YtkdfplnoldckgaaS10
import Derived.WalkKit
import Derived.ProofKit
import Derived.OpenShut
import Derived.Deep.DeepMust
import Derived.Outline
namespace Go.Proofs.Ytkdfplnoldckgaa
open Go.ChangeShapes Go.WideShapes Go.ChangeAt Go.RowKit

theorem meetings_none (ad : Option Addr) (cap : Nat) (a c : Int) (w : World) :
    Calls Try.prog 18 #[.slice ad 0 cap, .int .i64 a, .int .i64 c] w fun e w' => e = .returned (.int .i64 (meetN [] a c)) ∧ Below w.heap.size w w' := by
  rw [show ((meetN [] a c : Nat) : Int) = 0 from rfl]
  go_enter Try.func18, Try.ntmps18
  go_wp2
  refine wp_loop_rounds 1 ?_
  rw [rounds_succ]
  go_wp2
  go_ret
  exact ⟨rfl, Below.refl _ _⟩
set_option maxHeartbeats 2000000 in
theorem meetings_some (b o n cap : Nat) (L : List (List (List Int))) (a c : Int) (w : World) (hn : n ≤ 10000) (hL : ∀ r ∈ L, r.length ≤ 1000) (h : HeldL RoundC w (some ⟨b, o, none⟩) n cap L) :
    Calls Try.prog 18 #[.slice (some ⟨b, o, none⟩) n cap, .int .i64 a, .int .i64 c] w fun e w' => e = .returned (.int .i64 (meetN L a c)) ∧ Below w.heap.size w w' := by
  have hl := hid h.len
  have HL := hid hL
  clear hL
  go_enter Try.func18, Try.ntmps18
  go_wp2
  go_loopw [7, 14] (fun m i wr => ∃ k N : Nat, k ≤ n ∧ i = .int .i64 k ∧ m = .int .i64 N ∧ N ≤ k * 1000 ∧ Hid (N = meetN (L.take k) a c) ∧ Below w.heap.size w wr) (fun _ i _ => n - (intOf i).toNat)
  case atStart => exact ⟨0, 0, Nat.zero_le _, rfl, rfl, Nat.le_refl _, hid rfl, Below.refl _ _⟩
  case round =>
    obtain ⟨k, N, hk, rfl, rfl, hN, hM, hb⟩ := hrel
    obtain ⟨wo, ewo⟩ : ∃ wo : World, wo = wr := ⟨_, rfl⟩
    rw [← ewo] at hb ⊢
    clear ewo
    by_cases hlt : k < n
    · obtain ⟨ar, nr, cr, hc, hR⟩ := (h.below hb (Nat.le_refl _)).elem k hlt
      have hk0 : (0 : Int) ≤ k := by omega
      have hkn : (k : Int) < n := by omega
      have hNb : N ≤ 10000000 := by omega
      obtain ⟨r, er⟩ : ∃ r, r = L.getD k [] := ⟨_, rfl⟩
      rw [← er] at hR
      have hrl := hid hR.len
      have hnr : nr ≤ 1000 := by rw [← hrl.out, er]; exact HL.out _ (getD_mem (by rw [hl.out]; exact hlt))
      have hst := hid (meetN_take L a c k (by rw [hl.out]; exact hlt))
      rw [← er] at hst
      clear er
      go_wp2
      go_loopw [7, 20] (fun m i wr => ∃ j M : Nat, j ≤ nr ∧ i = .int .i64 j ∧ m = .int .i64 M ∧ M ≤ N + j ∧ Hid (M = N + meetR (r.take j) a c) ∧ Below wo.heap.size wo wr) (fun _ i _ => nr - (intOf i).toNat)
      case atStart => exact ⟨0, N, Nat.zero_le _, rfl, rfl, Nat.le_refl _, hid rfl, Below.refl _ _⟩
      case round =>
        obtain ⟨j, M, hj, rfl, rfl, hMl, hM2, hbi⟩ := hrel
        by_cases hjl : j < nr
        · have hRw := hR.below hbi (Nat.le_refl _)
          obtain ⟨b2, o2, rfl⟩ := hRw.head (by omega)
          obtain ⟨ae, me, ce, hc2, hE⟩ := hRw.elem j hjl
          have hj0 : (0 : Int) ≤ j := by omega
          have hjn : (j : Int) < nr := by omega
          obtain ⟨x, ex⟩ : ∃ x, x = r.getD j [] := ⟨_, rfl⟩
          rw [← ex] at hE
          have hst2 := hid (meetR_take r a c j (by rw [hrl.out]; exact hjl))
          rw [← ex] at hst2
          have bs := hbi.size
          obtain ⟨W, eW⟩ : ∃ W, W = (wr.alloc (.cells #[.slice ae me ce] 38)).alloc (.cells #[.slice ae me ce] 38) := ⟨_, rfl⟩
          have bW : Below wr.heap.size wr W := by rw [eW]; exact ((Below.refl _ _).alloc (Nat.le_refl _) _).alloc (by simp) _
          have hW : Has W (wr.heap.size + 1) #[.slice ae me ce] 38 := by rw [eW]; exact Has.newAt (by simp)
          have hEW := hE.below bW (Nat.le_refl _)
          have hone : HeldL IntsC W (some ⟨wr.heap.size + 1, 0, none⟩) 1 1 [x] := rests_one hW trivial hEW
          have hbW := hbi.trans (bW.mono bs)
          rw [eW] at hone hbW
          clear ex hRw hE bW hW hEW eW
          go_wp2_with fail
          refine (met_any _ 1 1 [x] a c _ hone).mono ?_
          rintro e w2 ⟨rfl, b2'⟩
          have hb2 := hbW.trans (b2'.mono hbW.size)
          rw [metB_one]
          clear hone hbW b2' hbi
          cases hm : metOne a c x
          · rw [hm] at hst2
            have hst3 := hid (show meetR (r.take (j + 1)) a c = meetR (r.take j) a c from by rw [hst2.out]; rfl)
            clear hst2
            go_wp2
            go_roundw
            case rel => exact ⟨j + 1, M, by omega, by go_num, rfl, by omega, hid (by rw [hst3.out]; exact hM2.out), hb2⟩
            case measure => simp [intOf]; omega
          · rw [hm] at hst2
            have hst3 := hid (show meetR (r.take (j + 1)) a c = meetR (r.take j) a c + 1 from by rw [hst2.out]; rfl)
            clear hst2
            go_wp2
            go_roundw
            case rel => exact ⟨j + 1, M + 1, by omega, by go_num, by go_num, by omega, hid (by rw [hst3.out, hM2.out]; omega), hb2⟩
            case measure => simp [intOf]; omega
        · obtain rfl : j = nr := by omega
          have hfin := hid (show M = meetN (L.take (k + 1)) a c by rw [hst.out, ← hM.out, hM2.out, List.take_of_length_le (by rw [hrl.out]; exact Nat.le_refl _)])
          have hb3 := hb.trans (hbi.mono hb.size)
          clear hbi hb hM2
          go_wp2
          go_roundw
          case rel => exact ⟨k + 1, M, by omega, by go_num, rfl, by omega, hfin, hb3⟩
          case measure => simp [intOf]; omega
    · obtain rfl : k = n := by omega
      have hfin := hid (show N = meetN L a c by rw [hM.out, List.take_of_length_le (by rw [hl.out]; exact Nat.le_refl _)])
      go_wp2
      go_ret
      exact ⟨ret_int (congrArg Nat.cast hfin.out), hb⟩
theorem meetings_any (ad : Option Addr) (n cap : Nat) (L : List (List (List Int))) (a c : Int) (w : World) (hn : n ≤ 10000) (hL : ∀ r ∈ L, r.length ≤ 1000) (h : HeldL RoundC w ad n cap L) :
    Calls Try.prog 18 #[.slice ad n cap, .int .i64 a, .int .i64 c] w fun e w' => e = .returned (.int .i64 (meetN L a c)) ∧ Below w.heap.size w w' := by
  by_cases h0 : n = 0
  · subst h0
    obtain rfl : L = [] := List.eq_nil_of_length_eq_zero h.len
    exact meetings_none ad cap a c w
  · obtain ⟨b, o, rfl⟩ := h.head (by omega)
    exact meetings_some b o n cap L a c w hn hL h
end Go.Proofs.Ytkdfplnoldckgaa
