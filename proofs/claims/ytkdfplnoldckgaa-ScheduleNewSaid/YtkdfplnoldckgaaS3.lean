/-
  The walks of circle, of the program and of the reference.
-/
import Derived.Test.YtkdfplnoldckgaaRows
import Derived.Test.YtkdfplnoldckgaaSMem
import Derived.Test.YtkdfplnoldckgaaSPlain
import Derived.Test.YtkdfplnoldckgaaS2
import Derived.WalkKit
import Derived.ProofKit
import Derived.OpenShut
import Derived.Deep.QuietTactic
import Derived.BigQuiet
import Derived.IntWalk
import Derived.Outline
namespace Go.Proofs.Ytkdfplnoldckgaa
open Go.ChangeShapes Go.WideShapes Go.ChangeAt Go.RowKit

theorem info_pairing : (Try.prog.info? 38).map (fun i => (i.zero, i.size, i.bytes)) = some (some (.agg #[.slice none 0 0]), 1, 24) := by kernel_rfl
theorem info_round : (Try.prog.info? 30).map (fun i => (i.zero, i.size, i.bytes)) = some (some (.slice none 0 0), 1, 24) := by kernel_rfl
theorem pairAt_skip {n m r k : Nat} {A B : Int} (hA : pairA m r k = A) (hB : pairB m r k = B) (h : (n : Int) ≤ A ∨ (n : Int) ≤ B) : roundTo n m r (k + 1) = roundTo n m r k := by
  rw [roundTo_succ]; unfold pairAt; rw [hA, hB, if_pos h, List.append_nil]
theorem pairAt_take {n m r k : Nat} {A B : Int} (hA : pairA m r k = A) (hB : pairB m r k = B) (h1 : ¬ (n : Int) ≤ A) (h2 : ¬ (n : Int) ≤ B) {b : Bool} (hf : pairFirst r k = b) : roundTo n m r (k + 1) = roundTo n m r k ++ [if b then [A, B] else [B, A]] := by
  rw [roundTo_succ]; unfold pairAt; rw [hA, hB, hf, if_neg (by omega)]

set_option maxHeartbeats 4000000 in
theorem circle_any (n : Nat) (w : World) (h2 : 2 ≤ n) (h16 : n ≤ 16) :
    Calls Try.prog 28 #[.int .i64 n] w fun e w' => ∃ v, e = .returned v ∧ OwnL RoundC w.heap.size 30 w' v (circleL n) ∧ Below w.heap.size w w' := by
  obtain ⟨i0, hi, hz0, hz1, hz2⟩ := info_parts info_pairing
  obtain ⟨i1, gi, gz0, gz1, gz2⟩ := info_parts info_round
  obtain ⟨m, em⟩ : ∃ m, m = n + n % 2 := ⟨_, rfl⟩
  have hm : (n : Int) + n % 2 = m := by rw [em]; omega
  obtain ⟨m1, em1⟩ : ∃ m1, m1 = m - 1 := ⟨_, rfl⟩
  have hm1 : (m : Int) - 1 = m1 := by omega
  obtain ⟨h, eh⟩ : ∃ h, h = m / 2 := ⟨_, rfl⟩
  have hh : (m : Int) / 2 = h := by rw [eh]; omega
  have hmb : 2 ≤ m ∧ m ≤ 16 := by omega
  have hm2 : (2 : Int) ≤ m := by omega
  have hm16 : (m : Int) ≤ 16 := by omega
  have hm1b : 1 ≤ m1 ∧ m1 ≤ 15 := by omega
  have hm11 : (1 : Int) ≤ m1 := by omega
  have hm115 : (m1 : Int) ≤ 15 := by omega
  have hhb : h ≤ 8 := by omega
  have HC := hid (show circleL n = circleTo n m m1 by unfold circleL; rw [← em, em1])
  have EM1 := hid em1
  have EH := hid eh
  have hmn : n ≤ m := by omega
  have hmn1 : m ≤ n + 1 := by omega
  clear em em1 eh
  go_enter Try.func28, Try.ntmps28
  go_wp2
  go_loopw [4, 5] (fun vo r wr => ∃ R : Nat, R ≤ m1 ∧ r = .int .i64 R ∧ OwnL RoundC w.heap.size 30 wr vo (circleTo n m R) ∧ Below w.heap.size w wr) (fun _ r _ => m1 - (intOf r).toNat)
  case atStart => exact ⟨0, Nat.zero_le _, rfl, OwnL.nil _ _ _ _, Below.refl _ _⟩
  case round =>
    obtain ⟨R, hR1, rfl, ownO, hbO⟩ := hrel
    by_cases hRlt : R < m1
    · obtain ⟨wo, ewo⟩ : ∃ wo : World, wo = wr := ⟨_, rfl⟩
      rw [← ewo] at ownO hbO ⊢
      clear ewo
      have hr0 : (0 : Int) ≤ R := by omega
      have hr15 : (R : Int) ≤ 15 := by omega
      have hRm : (R : Int) < m1 := by omega
      go_wp2
      go_loopw [6, 7] (fun v k wr => ∃ K : Nat, K ≤ h ∧ k = .int .i64 K ∧ OwnL IntsC wo.heap.size 38 wr v (roundTo n m R K) ∧ Below wo.heap.size wo wr) (fun _ k _ => h - (intOf k).toNat)
      case atStart => exact ⟨0, Nat.zero_le _, rfl, OwnL.nil _ _ _ _, Below.refl _ _⟩
      case round =>
        obtain ⟨K, hK, rfl, own, hbi⟩ := hrel
        by_cases hKlt : K < h
        · have hk0 : (0 : Int) ≤ K := by omega
          have hk8 : (K : Int) < h := by omega
          have hll := roundTo_length n m R K
          by_cases hKp : (0 : Int) < K
          · obtain ⟨A, eA⟩ : ∃ A : Nat, A = (R + K) % m1 := ⟨_, rfl⟩
            obtain ⟨B, eB⟩ : ∃ B : Nat, B = (R + m - 1 - K) % m1 := ⟨_, rfl⟩
            have hA : pairA m R K = A := by have := EM1.out; unfold pairA; rw [if_neg (by omega), eA, this]
            have hB : pairB m R K = B := by have := EM1.out; unfold pairB; rw [if_neg (by omega), eB, this]
            have hA0 : (0 : Int) ≤ A := by omega
            have hB0 : (0 : Int) ≤ B := by omega
            have e1 : IntKind.i64.wrap ((R : Int) + K) = R + K := IntWalk.i64_in _ (by omega)
            have e2 : IntKind.i64.wrap ((m : Int) - 1) = m1 := (IntWalk.i64_in _ (by omega)).trans hm1
            have e3 : Int.tmod ((R : Int) + K) m1 = A := by rw [Int.tmod_eq_emod_of_nonneg (by omega), eA]; simp
            have e4 : IntKind.i64.wrap ((R : Int) + m) = R + m := IntWalk.i64_in _ (by omega)
            have e5 : IntKind.i64.wrap ((R : Int) + m - 1) = R + m - 1 := IntWalk.i64_in _ (by omega)
            have e6 : IntKind.i64.wrap ((R : Int) + m - 1 - K) = R + m - 1 - K := IntWalk.i64_in _ (by omega)
            have e7 : Int.tmod ((R : Int) + m - 1 - K) m1 = B := by rw [Int.tmod_eq_emod_of_nonneg (by omega), eB, show (R : Int) + m - 1 - K = ((R + m - 1 - K : Nat) : Int) by omega]; simp
            clear eA eB
            by_cases hAn : (n : Int) ≤ A
            · have hs := hid (pairAt_skip (n := n) hA hB (Or.inl hAn))
              clear hA hB
              go_wp2
              go_quiet (fail)
              clear e1 e2 e3 e4 e5 e6 e7
              obtain ⟨wj, ej⟩ : ∃ wj, wj = wr.drewN nq := ⟨_, rfl⟩
              rw [← ej]
              have hd : Below wo.heap.size wr wj := by rw [ej]; exact ⟨rfl, rfl, rfl, Nat.le_refl _, fun _ _ => rfl⟩
              have own := own.below (show Below wr.heap.size wr wj by rw [ej]; exact ⟨rfl, rfl, rfl, Nat.le_refl _, fun _ _ => rfl⟩) (Nat.le_refl _)
              have hbj := hbi.trans hd
              clear ej hd hbi
              go_wp2
              go_roundw
              case rel => exact ⟨K + 1, by omega, by go_num, by rw [hs.out]; exact own, hbj⟩
              case measure => simp [intOf]; omega
            by_cases hBn : (n : Int) ≤ B
            · have hs := hid (pairAt_skip (n := n) hA hB (Or.inr hBn))
              clear hA hB
              go_wp2
              go_quiet (fail)
              clear e1 e2 e3 e4 e5 e6 e7
              obtain ⟨wj, ej⟩ : ∃ wj, wj = wr.drewN nq := ⟨_, rfl⟩
              rw [← ej]
              have hd : Below wo.heap.size wr wj := by rw [ej]; exact ⟨rfl, rfl, rfl, Nat.le_refl _, fun _ _ => rfl⟩
              have own := own.below (show Below wr.heap.size wr wj by rw [ej]; exact ⟨rfl, rfl, rfl, Nat.le_refl _, fun _ _ => rfl⟩) (Nat.le_refl _)
              have hbj := hbi.trans hd
              clear ej hd hbi
              go_wp2
              go_roundw
              case rel => exact ⟨K + 1, by omega, by go_num, by rw [hs.out]; exact own, hbj⟩
              case measure => simp [intOf]; omega
            cases hp : ((K : Int) % 2 == 1)
            · have hs := hid (pairAt_take (n := n) hA hB hAn hBn (b := false) (by unfold pairFirst; rw [if_neg (by omega)]; have hp := hp; simp at hp ⊢; omega))
              rw [show (if false = true then [(A : Int), (B : Int)] else [(B : Int), (A : Int)]) = [(B : Int), (A : Int)] from rfl] at hs
              clear hA hB
              go_wp2
              go_quiet (fail)
              clear e1 e2 e3 e4 e5 e6 e7
              obtain ⟨wj, ej⟩ : ∃ wj, wj = wr.drewN nq := ⟨_, rfl⟩
              rw [← ej]
              have hd : Below wo.heap.size wr wj := by rw [ej]; exact ⟨rfl, rfl, rfl, Nat.le_refl _, fun _ _ => rfl⟩
              have own := own.below (show Below wr.heap.size wr wj by rw [ej]; exact ⟨rfl, rfl, rfl, Nat.le_refl _, fun _ _ => rfl⟩) (Nat.le_refl _)
              have hbj := hbi.trans hd
              clear ej hd hbi
              have hbsj := hbj.size
              have own1 := (own.alloc (.cells #[.int .i64 (B : Int), .int .i64 (A : Int)] 3)).alloc (.cells #[.slice (some ⟨wj.heap.size, 0, none⟩) 2 2] 38)
              have bA : Below wo.heap.size wo ((wj.alloc (.cells #[.int .i64 (B : Int), .int .i64 (A : Int)] 3)).alloc (.cells #[.slice (some ⟨wj.heap.size, 0, none⟩) 2 2] 38)) := (hbj.alloc hbsj _).alloc (by simp; omega) _
              have hR : Rests IntsC (fun k => wo.heap.size ≤ k ∧ u6.ownBlock ≠ some k) ((wj.alloc (.cells #[.int .i64 (B : Int), .int .i64 (A : Int)] 3)).alloc (.cells #[.slice (some ⟨wj.heap.size, 0, none⟩) 2 2] 38)) (.slice (some ⟨wj.heap.size, 0, none⟩) 2 2) [(B : Int), (A : Int)] :=
                rests_ints ((Has.new wj (ints [(B : Int), (A : Int)]) 3).alloc _) ⟨hbsj, fun e => by have := (own.lt _ e).2; omega⟩ rfl (by omega)
              go_wp2_with (at_builtin; refine wpList_append_run rfl _ _ 30 rfl _ _ rfl rfl (run_append1 _ wo.heap.size 30 _ 38 i0 _ 24 Try.underlying30 hi hz0 hz1 hz2 rfl _ (roundTo n m R K) own1 (wj.heap.size + 1) 1 (.slice (some ⟨wj.heap.size, 0, none⟩) 2 2) [(B : Int), (A : Int)] (by simp) rfl hR (by rw [maxLen_eq]; omega) (by omega) (Nat.le_trans hbsj (by simp; omega))) ?_; rintro v1 w1 ⟨own2, b2, _⟩)
              have b3 := bA.trans b2
              clear own own1 bA b2 hbj hR
              go_wp2
              go_roundw
              case rel => exact ⟨K + 1, by omega, by go_num, by rw [hs.out]; exact own2, b3⟩
              case measure => simp [intOf]; omega
            · have hs := hid (pairAt_take (n := n) hA hB hAn hBn (b := true) (by unfold pairFirst; rw [if_neg (by omega)]; have hp := hp; simp at hp ⊢; omega))
              rw [show (if true = true then [(A : Int), (B : Int)] else [(B : Int), (A : Int)]) = [(A : Int), (B : Int)] from rfl] at hs
              clear hA hB
              go_wp2
              go_quiet (fail)
              clear e1 e2 e3 e4 e5 e6 e7
              obtain ⟨wj, ej⟩ : ∃ wj, wj = wr.drewN nq := ⟨_, rfl⟩
              rw [← ej]
              have hd : Below wo.heap.size wr wj := by rw [ej]; exact ⟨rfl, rfl, rfl, Nat.le_refl _, fun _ _ => rfl⟩
              have own := own.below (show Below wr.heap.size wr wj by rw [ej]; exact ⟨rfl, rfl, rfl, Nat.le_refl _, fun _ _ => rfl⟩) (Nat.le_refl _)
              have hbj := hbi.trans hd
              clear ej hd hbi
              have hbsj := hbj.size
              have own1 := (own.alloc (.cells #[.int .i64 (A : Int), .int .i64 (B : Int)] 3)).alloc (.cells #[.slice (some ⟨wj.heap.size, 0, none⟩) 2 2] 38)
              have bA : Below wo.heap.size wo ((wj.alloc (.cells #[.int .i64 (A : Int), .int .i64 (B : Int)] 3)).alloc (.cells #[.slice (some ⟨wj.heap.size, 0, none⟩) 2 2] 38)) := (hbj.alloc hbsj _).alloc (by simp; omega) _
              have hR : Rests IntsC (fun k => wo.heap.size ≤ k ∧ u6.ownBlock ≠ some k) ((wj.alloc (.cells #[.int .i64 (A : Int), .int .i64 (B : Int)] 3)).alloc (.cells #[.slice (some ⟨wj.heap.size, 0, none⟩) 2 2] 38)) (.slice (some ⟨wj.heap.size, 0, none⟩) 2 2) [(A : Int), (B : Int)] :=
                rests_ints ((Has.new wj (ints [(A : Int), (B : Int)]) 3).alloc _) ⟨hbsj, fun e => by have := (own.lt _ e).2; omega⟩ rfl (by omega)
              go_wp2_with (at_builtin; refine wpList_append_run rfl _ _ 30 rfl _ _ rfl rfl (run_append1 _ wo.heap.size 30 _ 38 i0 _ 24 Try.underlying30 hi hz0 hz1 hz2 rfl _ (roundTo n m R K) own1 (wj.heap.size + 1) 1 (.slice (some ⟨wj.heap.size, 0, none⟩) 2 2) [(A : Int), (B : Int)] (by simp) rfl hR (by rw [maxLen_eq]; omega) (by omega) (Nat.le_trans hbsj (by simp; omega))) ?_; rintro v1 w1 ⟨own2, b2, _⟩)
              have b3 := bA.trans b2
              clear own own1 bA b2 hbj hR
              go_wp2
              go_roundw
              case rel => exact ⟨K + 1, by omega, by go_num, by rw [hs.out]; exact own2, b3⟩
              case measure => simp [intOf]; omega

          · have hA : pairA m R K = R := by unfold pairA; rw [if_pos (by omega)]
            have hB : pairB m R K = m1 := by have := EM1.out; unfold pairB; rw [if_pos (by omega), this]
            have hAn : ¬ (n : Int) ≤ R := by omega
            by_cases hBn : (n : Int) ≤ m1
            · have hs := hid (pairAt_skip (n := n) hA hB (Or.inr hBn))
              clear hA hB
              obtain ⟨wj, ej⟩ : ∃ wj, wj = wr := ⟨_, rfl⟩
              rw [← ej] at own hbi ⊢
              have hbj := hbi
              clear ej hbi
              go_wp2
              go_roundw
              case rel => exact ⟨K + 1, by omega, by go_num, by rw [hs.out]; exact own, hbj⟩
              case measure => simp [intOf]; omega
            cases hp : ((R : Int) % 2 == 0)
            · have hs := hid (pairAt_take (n := n) hA hB hAn hBn (b := false) (by unfold pairFirst; rw [if_pos (by omega)]; have hp := hp; simp at hp ⊢; omega))
              rw [show (if false = true then [(R : Int), (m1 : Int)] else [(m1 : Int), (R : Int)]) = [(m1 : Int), (R : Int)] from rfl] at hs
              clear hA hB
              obtain ⟨wj, ej⟩ : ∃ wj, wj = wr := ⟨_, rfl⟩
              rw [← ej] at own hbi ⊢
              have hbj := hbi
              clear ej hbi
              have hbsj := hbj.size
              have own1 := (own.alloc (.cells #[.int .i64 (m1 : Int), .int .i64 (R : Int)] 3)).alloc (.cells #[.slice (some ⟨wj.heap.size, 0, none⟩) 2 2] 38)
              have bA : Below wo.heap.size wo ((wj.alloc (.cells #[.int .i64 (m1 : Int), .int .i64 (R : Int)] 3)).alloc (.cells #[.slice (some ⟨wj.heap.size, 0, none⟩) 2 2] 38)) := (hbj.alloc hbsj _).alloc (by simp; omega) _
              have hR : Rests IntsC (fun k => wo.heap.size ≤ k ∧ u6.ownBlock ≠ some k) ((wj.alloc (.cells #[.int .i64 (m1 : Int), .int .i64 (R : Int)] 3)).alloc (.cells #[.slice (some ⟨wj.heap.size, 0, none⟩) 2 2] 38)) (.slice (some ⟨wj.heap.size, 0, none⟩) 2 2) [(m1 : Int), (R : Int)] :=
                rests_ints ((Has.new wj (ints [(m1 : Int), (R : Int)]) 3).alloc _) ⟨hbsj, fun e => by have := (own.lt _ e).2; omega⟩ rfl (by omega)
              go_wp2_with (at_builtin; refine wpList_append_run rfl _ _ 30 rfl _ _ rfl rfl (run_append1 _ wo.heap.size 30 _ 38 i0 _ 24 Try.underlying30 hi hz0 hz1 hz2 rfl _ (roundTo n m R K) own1 (wj.heap.size + 1) 1 (.slice (some ⟨wj.heap.size, 0, none⟩) 2 2) [(m1 : Int), (R : Int)] (by simp) rfl hR (by rw [maxLen_eq]; omega) (by omega) (Nat.le_trans hbsj (by simp; omega))) ?_; rintro v1 w1 ⟨own2, b2, _⟩)
              have b3 := bA.trans b2
              clear own own1 bA b2 hbj hR
              go_wp2
              go_roundw
              case rel => exact ⟨K + 1, by omega, by go_num, by rw [hs.out]; exact own2, b3⟩
              case measure => simp [intOf]; omega
            · have hs := hid (pairAt_take (n := n) hA hB hAn hBn (b := true) (by unfold pairFirst; rw [if_pos (by omega)]; have hp := hp; simp at hp ⊢; omega))
              rw [show (if true = true then [(R : Int), (m1 : Int)] else [(m1 : Int), (R : Int)]) = [(R : Int), (m1 : Int)] from rfl] at hs
              clear hA hB
              obtain ⟨wj, ej⟩ : ∃ wj, wj = wr := ⟨_, rfl⟩
              rw [← ej] at own hbi ⊢
              have hbj := hbi
              clear ej hbi
              have hbsj := hbj.size
              have own1 := (own.alloc (.cells #[.int .i64 (R : Int), .int .i64 (m1 : Int)] 3)).alloc (.cells #[.slice (some ⟨wj.heap.size, 0, none⟩) 2 2] 38)
              have bA : Below wo.heap.size wo ((wj.alloc (.cells #[.int .i64 (R : Int), .int .i64 (m1 : Int)] 3)).alloc (.cells #[.slice (some ⟨wj.heap.size, 0, none⟩) 2 2] 38)) := (hbj.alloc hbsj _).alloc (by simp; omega) _
              have hR : Rests IntsC (fun k => wo.heap.size ≤ k ∧ u6.ownBlock ≠ some k) ((wj.alloc (.cells #[.int .i64 (R : Int), .int .i64 (m1 : Int)] 3)).alloc (.cells #[.slice (some ⟨wj.heap.size, 0, none⟩) 2 2] 38)) (.slice (some ⟨wj.heap.size, 0, none⟩) 2 2) [(R : Int), (m1 : Int)] :=
                rests_ints ((Has.new wj (ints [(R : Int), (m1 : Int)]) 3).alloc _) ⟨hbsj, fun e => by have := (own.lt _ e).2; omega⟩ rfl (by omega)
              go_wp2_with (at_builtin; refine wpList_append_run rfl _ _ 30 rfl _ _ rfl rfl (run_append1 _ wo.heap.size 30 _ 38 i0 _ 24 Try.underlying30 hi hz0 hz1 hz2 rfl _ (roundTo n m R K) own1 (wj.heap.size + 1) 1 (.slice (some ⟨wj.heap.size, 0, none⟩) 2 2) [(R : Int), (m1 : Int)] (by simp) rfl hR (by rw [maxLen_eq]; omega) (by omega) (Nat.le_trans hbsj (by simp; omega))) ?_; rintro v1 w1 ⟨own2, b2, _⟩)
              have b3 := bA.trans b2
              clear own own1 bA b2 hbj hR
              go_wp2
              go_roundw
              case rel => exact ⟨K + 1, by omega, by go_num, by rw [hs.out]; exact own2, b3⟩
              case measure => simp [intOf]; omega

        · obtain rfl : K = h := by omega
          rw [EH.out] at own
          obtain ⟨ad, cp, rfl, _⟩ := own.slice
          have hln := roundTo_length n m R (m / 2)
          have hbsi := hbi.size
          have hbsO := hbO.size
          have hRo : Rests RoundC (fun k => w.heap.size ≤ k ∧ u4.ownBlock ≠ some k) wr (.slice ad (roundTo n m R (m / 2)).length cp) (roundTo n m R (m / 2)) := own.rests.weak fun k hk hs => ⟨Nat.le_trans hbO.size hs, fun e => by have := (ownO.lt _ e).2; omega⟩
          have ownO1 := ownO.below hbi (Nat.le_refl _)
          have bO1 : Below w.heap.size w wr := hbO.trans (hbi.mono hbsO)
          obtain ⟨X, eX⟩ : ∃ X, X = roundTo n m R (m / 2) := ⟨_, rfl⟩
          have HX := hid (show circleTo n m (R + 1) = circleTo n m R ++ [X] by rw [eX]; exact circleTo_succ n m R)
          rw [← eX] at hRo hln ⊢
          obtain ⟨lx, elx⟩ : ∃ lx, lx = X.length := ⟨_, rfl⟩
          rw [← elx] at hRo ⊢
          have hcl : (circleTo n m R).length = R := by simp [circleTo]
          have Hcl := hid hcl
          clear eX elx own ownO hbi hbO hcl
          have own3 := ownO1.alloc (.cells #[.slice ad lx cp] 30)
          have b3 := bO1.alloc (by omega) (.cells #[.slice ad lx cp] 30)
          have hR3 := hRo.below ((Below.refl wr.heap.size wr).alloc (Nat.le_refl _) (.cells #[.slice ad lx cp] 30)) (Nat.le_refl _)
          go_wp2_with (at_builtin; refine wpList_append_run rfl _ _ 22 rfl _ _ rfl rfl (run_append1 _ w.heap.size 22 _ 30 i1 _ 24 Try.underlying22 gi gz0 gz1 gz2 rfl _ (circleTo n m R) own3 wr.heap.size 1 (.slice ad lx cp) X (by simp) rfl hR3 (by rw [Hcl.out, maxLen_eq]; omega) (by rw [Hcl.out]; omega) (by simp; omega)) ?_; rintro v4 w4 ⟨own4, b4, _⟩)
          have b5 := b3.trans b4
          clear own3 ownO1 b3 b4 bO1 hRo hR3
          go_wp2
          go_roundw
          case rel => exact ⟨R + 1, by omega, by go_num, by rw [HX.out]; exact own4, b5⟩
          case measure => simp [intOf]; omega
    · obtain rfl : R = m1 := by omega
      go_wp2
      go_ret
      exact ⟨_, rfl, by rw [HC.out]; exact ownO, hbO⟩
end Go.Proofs.Ytkdfplnoldckgaa
