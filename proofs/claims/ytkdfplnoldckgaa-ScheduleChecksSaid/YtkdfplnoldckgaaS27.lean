/-
  The walk of Meetings of the reference.
-/
import Derived.Test.YtkdfplnoldckgaaRows
import Derived.Test.YtkdfplnoldckgaaSMem
import Derived.Test.YtkdfplnoldckgaaSPlain4
import Derived.Test.YtkdfplnoldckgaaS20
import Derived.WalkKit
import Derived.ProofKit
import Derived.OpenShut
import Derived.Deep.DeepMust
import Derived.Outline
namespace Go.Proofs.Ytkdfplnoldckgaa
open Go.ChangeShapes Go.WideShapes Go.ChangeAt Go.RowKit

theorem HeldL.one {α : Type} {C : World → Value → α → Prop} {w : World} {b o n cap : Nat} {l : List α} (d : α) (h : HeldL C w (some ⟨b, o, none⟩) n cap l) (j : Nat) (hj : j < n) : HeldL C w (some ⟨b, o + j, none⟩) 1 (cap - j) [l.getD j d] := by
  have h2 := (h.drop j (by omega)).take 1 (by omega)
  have e : (l.drop j).take 1 = [l.getD j d] := by
    have hl := h.len
    rw [List.drop_eq_getElem_cons (by omega), List.getD_eq_getElem?_getD, List.getElem?_eq_getElem (by omega)]; rfl
  rwa [e] at h2
theorem rmeetings_none (ad : Option Addr) (cap : Nat) (a c : Int) (w : World) :
    Calls Try.prog 24 #[.slice ad 0 cap, .int .i64 a, .int .i64 c] w fun e w' => e = .returned (.int .i64 (meetN [] a c)) ∧ w' = w := by
  rw [show ((meetN [] a c : Nat) : Int) = 0 from rfl]
  go_enter Try.func24, Try.ntmps24
  go_wp2
  refine wp_loop_rounds 1 ?_
  rw [rounds_succ]
  go_wp2
  go_ret
  exact ⟨rfl, rfl⟩
set_option maxHeartbeats 2000000 in
theorem rmeetings_some (b o n cap : Nat) (L : List (List (List Int))) (a c : Int) (w : World) (hn : n ≤ 10000) (hL : ∀ r ∈ L, r.length ≤ 1000) (h : HeldL RoundC w (some ⟨b, o, none⟩) n cap L) :
    Calls Try.prog 24 #[.slice (some ⟨b, o, none⟩) n cap, .int .i64 a, .int .i64 c] w fun e w' => e = .returned (.int .i64 (meetN L a c)) ∧ w' = w := by
  have hl := hid h.len
  have HL := hid hL
  clear hL
  go_enter Try.func24, Try.ntmps24
  go_wp2
  go_loop [7, 8] (fun m i => ∃ k N : Nat, k ≤ n ∧ i = .int .i64 k ∧ m = .int .i64 N ∧ N ≤ k * 1000 ∧ Hid (N = meetN (L.take k) a c)) (fun _ i => n - (intOf i).toNat)
  case atStart => exact ⟨0, 0, Nat.zero_le _, rfl, rfl, Nat.le_refl _, hid rfl⟩
  case round =>
    obtain ⟨k, N, hk, rfl, rfl, hN, hM⟩ := hrel
    by_cases hlt : k < n
    · obtain ⟨ar, nr, cr, hc, hR⟩ := h.elem k hlt
      have hk0 : (0 : Int) ≤ k := by omega
      have hkn : (k : Int) < n := by omega
      have hNb : N ≤ 10000000 := by omega
      obtain ⟨r, er⟩ : ∃ r, r = L.getD k [] := ⟨_, rfl⟩
      rw [← er] at hR
      have hrl := hid hR.len
      have hnr : nr ≤ 1000 := by rw [← hrl.out, er]; exact HL.out _ (getD_mem (by rw [hl.out]; exact hlt))
      have hst := hid (meetN_take L a c k (by rw [hl.out]; exact hlt))
      rw [← er] at hst
      have hrle := hR.le
      have hrmx := hR.max
      clear er
      go_wp2
      go_loop [7, 9] (fun m i => ∃ j M : Nat, j ≤ nr ∧ i = .int .i64 j ∧ m = .int .i64 M ∧ M ≤ N + j ∧ Hid (M = N + meetR (r.take j) a c)) (fun _ i => nr - (intOf i).toNat)
      case atStart => exact ⟨0, N, Nat.zero_le _, rfl, rfl, Nat.le_refl _, hid rfl⟩
      case round =>
        obtain ⟨j, M, hj, rfl, rfl, hMl, hM2⟩ := hrel
        by_cases hjl : j < nr
        · obtain ⟨b2, o2, rfl⟩ := hR.head (by omega)
          have hone := hR.one [] j hjl
          have hj0 : (0 : Int) ≤ j := by omega
          have hjn : (j : Int) < nr := by omega
          have hj1 : (0 : Int) ≤ (j : Int) + 1 := by omega
          have hj2 : (j : Int) ≤ (j : Int) + 1 := by omega
          have hj3 : (j : Int) + 1 ≤ (cr : Nat) := by omega
          have hj4 : ((j : Int) + 1).toNat = j + 1 := by omega
          have hj5 : ¬ cr = j := by omega
          have hj6 : j + 1 - j = 1 := by omega
          obtain ⟨x, ex⟩ : ∃ x, x = r.getD j [] := ⟨_, rfl⟩
          rw [← ex] at hone
          have hst2 := hid (meetR_take r a c j (by rw [hrl.out]; exact hjl))
          rw [← ex] at hst2
          clear ex hR
          go_wp2_with fail
          refine (rmet_any _ 1 (cr - j) [x] a c _ hone).mono ?_
          rintro e w2 ⟨rfl, rfl⟩
          rw [metB_one]
          clear hone
          cases hm : metOne a c x
          · rw [hm] at hst2
            have hst3 := hid (show meetR (r.take (j + 1)) a c = meetR (r.take j) a c from by rw [hst2.out]; rfl)
            clear hst2
            go_wp2
            go_round
            case rel => exact ⟨j + 1, M, by omega, by go_num, rfl, by omega, hid (by rw [hst3.out]; exact hM2.out)⟩
            case measure => simp [intOf]; omega
          · rw [hm] at hst2
            have hst3 := hid (show meetR (r.take (j + 1)) a c = meetR (r.take j) a c + 1 from by rw [hst2.out]; rfl)
            clear hst2
            go_wp2
            go_round
            case rel => exact ⟨j + 1, M + 1, by omega, by go_num, by go_num, by omega, hid (by rw [hst3.out, hM2.out]; omega)⟩
            case measure => simp [intOf]; omega
        · obtain rfl : j = nr := by omega
          have hfin := hid (show M = meetN (L.take (k + 1)) a c by rw [hst.out, ← hM.out, hM2.out, List.take_of_length_le (by rw [hrl.out]; exact Nat.le_refl _)])
          clear hM2
          go_wp2
          go_round
          case rel => exact ⟨k + 1, M, by omega, by go_num, rfl, by omega, hfin⟩
          case measure => simp [intOf]; omega
    · obtain rfl : k = n := by omega
      have hfin := hid (show N = meetN L a c by rw [hM.out, List.take_of_length_le (by rw [hl.out]; exact Nat.le_refl _)])
      go_wp2
      go_ret
      exact ⟨ret_int (congrArg Nat.cast hfin.out), rfl⟩
theorem rmeetings_any (ad : Option Addr) (n cap : Nat) (L : List (List (List Int))) (a c : Int) (w : World) (hn : n ≤ 10000) (hL : ∀ r ∈ L, r.length ≤ 1000) (h : HeldL RoundC w ad n cap L) :
    Calls Try.prog 24 #[.slice ad n cap, .int .i64 a, .int .i64 c] w fun e w' => e = .returned (.int .i64 (meetN L a c)) ∧ w' = w := by
  by_cases h0 : n = 0
  · subst h0
    obtain rfl : L = [] := List.eq_nil_of_length_eq_zero h.len
    exact rmeetings_none ad cap a c w
  · obtain ⟨b, o, rfl⟩ := h.head (by omega)
    exact rmeetings_some b o n cap L a c w hn hL h
end Go.Proofs.Ytkdfplnoldckgaa
