/-
  The walk of pairing, of the reference.
-/
import Derived.Test.YtkdfplnoldckgaaRows
import Derived.Test.YtkdfplnoldckgaaSMem
import Derived.Test.YtkdfplnoldckgaaSPlain5
import Derived.Test.YtkdfplnoldckgaaS20
import Derived.WalkKit
import Derived.ProofKit
import Derived.OpenShut
import Derived.Deep.DeepMust
import Derived.Deep.QuietTactic
import Derived.BigQuiet
import Derived.Outline
namespace Go.Proofs.Ytkdfplnoldckgaa
open Go.ChangeShapes Go.WideShapes Go.ChangeAt Go.RowKit

theorem hasB_append (a b : List Int) (p : Int) : hasB (a ++ b) p = (hasB a p || hasB b p) := by unfold hasB; simp
theorem rhas_val (v : Bool) (ad : Option Addr) (n cap : Nat) (l : List Int) (p : Int) (w : World) (h : HeldL IntC w ad n cap l) (hv : hasB l p = v) :
    Calls Try.prog 40 #[.slice ad n cap, .int .i64 p] w fun e w' => e = .returned (.bool v) ∧ w' = w := hv ▸ rhas_any ad n cap l p w h
theorem seatsE_some : ∀ (x seen s : List Int), seatsE seen x = some s → s = seen ++ x
  | [], seen, s, h => by simp [seatsE] at h; simp [h]
  | y :: r, seen, s, h => by
    simp only [seatsE] at h
    split at h
    · cases h
    · have := seatsE_some r _ s h
      simpa using this
theorem rpairing_len (ae au : Option Addr) (me ce ns cs : Nat) (N : Int) (seen x : List Int) (w : World) (h : me < 1 ∨ 4 < me) (hx : x.length = me) :
    Calls Try.prog 45 #[.agg #[.slice ae me ce], .int .i64 N, .slice au ns cs] w fun e w' => e = .returned (.int .i64 (pairE N seen x).1) ∧ Below w.heap.size w w' := by
  rw [pairE_len N seen x (by omega)]
  have b1 : Below w.heap.size w (w.alloc (.cells #[.slice ae me ce] 38)) := (Below.refl _ _).alloc (Nat.le_refl _) _
  clear hx
  rcases h with h | h
  · have h1 : (me : Int) < 1 := by omega
    go_enter Try.func45, Try.ntmps45
    go_wp2
    go_ret
    exact ⟨rfl, b1⟩
  · have h1 : ¬ (me : Int) < 1 := by omega
    have h2 : (4 : Int) < me := by omega
    go_enter Try.func45, Try.ntmps45
    go_wp2
    go_ret
    exact ⟨rfl, b1⟩
set_option maxHeartbeats 800000 in
theorem rpairing_some (b o me ce : Nat) (au : Option Addr) (ns cs : Nat) (N : Int) (seen x : List Int) (w : World) (h1 : 1 ≤ me) (h4 : me ≤ 4) (hE : HeldL IntC w (some ⟨b, o, none⟩) me ce x) (hS : HeldL IntC w au ns cs seen) :
    Calls Try.prog 45 #[.agg #[.slice (some ⟨b, o, none⟩) me ce], .int .i64 N, .slice au ns cs] w fun e w' => e = .returned (.int .i64 (pairE N seen x).1) ∧ Below w.heap.size w w' := by
  have bW : Below w.heap.size w (w.alloc (.cells #[.slice (some ⟨b, o, none⟩) me ce] 38)) := (Below.refl _ _).alloc (Nat.le_refl _) _
  have hEW := hE.below bW (Nat.le_refl _)
  have hSW := hS.below bW (Nat.le_refl _)
  have hl := hid hE.len
  have hle := hE.le
  have hmx := hE.max
  have g1 : ¬ (me : Int) < 1 := by omega
  have g2 : ¬ (4 : Int) < me := by omega
  have Hlen := hid (show ¬ (x.length < 1 ∨ 4 < x.length) by rw [hl.out]; omega)
  clear hE hS
  go_enter Try.func45, Try.ntmps45
  go_wp2
  go_loop [7] (fun i => ∃ k : Nat, k ≤ me ∧ i = .int .i64 k ∧ Hid (badB N (x.take k) = false)) (fun i => me - (intOf i).toNat)
  case atStart => exact ⟨0, Nat.zero_le _, rfl, hid rfl⟩
  case round =>
    obtain ⟨k, hk, rfl, hf⟩ := hrel
    by_cases hlt : k < me
    · have hc := hEW.int k hlt
      have hk0 : (0 : Int) ≤ k := by omega
      have hkn : (k : Int) < me := by omega
      obtain ⟨y, ey⟩ : ∃ y, y = x.getD k 0 := ⟨_, rfl⟩
      rw [← ey] at hc
      have hst := hid (badB_take N x k (by rw [hl.out]; exact hlt))
      have htr := hid (badB_true N x k (by rw [hl.out]; exact hlt))
      rw [← ey] at hst htr
      clear ey
      by_cases hy : y < 0
      · have hr := hid (pairE_bad N seen x Hlen.out (htr.out (Or.inl hy)))
        go_wp2
        go_ret
        exact ⟨ret_int (by rw [hr.out]), bW⟩
      · by_cases hy2 : N ≤ y
        · have hr := hid (pairE_bad N seen x Hlen.out (htr.out (Or.inr hy2)))
          go_wp2
          go_ret
          exact ⟨ret_int (by rw [hr.out]), bW⟩
        · go_wp2
          go_round
          case rel => exact ⟨k + 1, by omega, by go_num, hid (by rw [hst.out, hf.out, decide_eq_false (by omega)]; rfl)⟩
          case measure => simp [intOf]; omega
    · obtain rfl : k = me := by omega
      have hbad := hid (show badB N x = false by rw [← List.take_of_length_le (show x.length ≤ k by rw [hl.out]; exact Nat.le_refl _)]; exact hf.out)
      clear hf
      go_wp2
      obtain ⟨W, eW⟩ : ∃ W, W = w.alloc (.cells #[.slice (some ⟨b, o, none⟩) k ce] 38) := ⟨_, rfl⟩
      have hcell : W.cell? ⟨w.heap.size, 0, none⟩ = some (.slice (some ⟨b, o, none⟩) k ce) := by rw [eW]; exact (Has.newAt rfl).cell (j := 0) rfl
      rw [← eW] at hEW hSW bW ⊢
      clear eW
      go_loopw [8] (fun i wr => ∃ j : Nat, j ≤ k ∧ i = .int .i64 j ∧ Hid (seatsE seen x = seatsE (seen ++ x.take j) (x.drop j)) ∧ ∃ q, wr = W.drewN q) (fun i _ => k - (intOf i).toNat)
      case atStart => exact ⟨0, Nat.zero_le _, rfl, hid (by simp), 0, rfl⟩
      case round =>
        obtain ⟨j, hj, rfl, hf, q0, hw⟩ := hrel
        have hb : Below W.heap.size W wr := by rw [hw]; exact ⟨rfl, rfl, rfl, Nat.le_refl _, fun _ _ => rfl⟩
        have hp := (hb.cell (p := ⟨w.heap.size, 0, none⟩) (lt_of_cell hcell)).trans hcell
        have hE2 := hEW.below hb (Nat.le_refl _)
        have hS2 := hSW.below hb (Nat.le_refl _)
        have bR : Below w.heap.size w wr := bW.trans (hb.mono bW.size)
        have bQ : ∀ nq, Below w.heap.size w (wr.drewN nq) := fun nq => bR.trans ⟨rfl, rfl, rfl, Nat.le_refl _, fun _ _ => rfl⟩
        have Hw := hid hw
        clear hw hb hEW hSW hcell bW
        by_cases hjl : j < k
        · have hc := hE2.int j hjl
          have hj0 : (0 : Int) ≤ j := by omega
          have hjn : (j : Int) < k := by omega
          have hjn2 : (j : Int) ≤ k := by omega
          have hjc : (j : Int) ≤ (ce : Nat) := by omega
          have hT := hE2.take j hj
          obtain ⟨y, ey⟩ : ∃ y, y = x.getD j 0 := ⟨_, rfl⟩
          rw [← ey] at hc
          have hno := hid (seatsE_no (seen ++ x.take j) x j (by rw [hl.out]; exact hjl))
          have hye := hid (seatsE_yes (seen ++ x.take j) x j (by rw [hl.out]; exact hjl))
          rw [← ey, hasB_append] at hno hye
          have htk := hid (show x.take (j + 1) = x.take j ++ [y] by rw [ey]; exact take_getD x j 0 (by rw [hl.out]; exact hjl))
          clear ey
          obtain ⟨tj, etj⟩ : ∃ tj, tj = x.take j := ⟨_, rfl⟩
          rw [← etj] at hT hno hye htk
          have Etj := hid etj
          clear etj
          cases hA : hasB tj y
          · cases hB : hasB seen y
            · have hnext := hid (show seatsE seen x = seatsE (seen ++ x.take (j + 1)) (x.drop (j + 1)) by rw [hf.out, ← Etj.out, hye.out (by rw [hA, hB]; rfl), htk.out, List.append_assoc])
              have hF : ∀ q, Calls Try.prog 40 #[.slice (some ⟨b, o, none⟩) j ce, .int .i64 y] (wr.drewN q) (fun e w2 => e = .returned (.bool false) ∧ ∃ n, w2 = wr.drewN n) := fun q => Calls.quiet_of_same (rhas_val false _ j ce tj y _ (hT.below ⟨rfl, rfl, rfl, Nat.le_refl _, fun _ _ => rfl⟩ (Nat.le_refl _)) hA)
              have hG : ∀ q, Calls Try.prog 40 #[.slice au ns cs, .int .i64 y] (wr.drewN q) (fun e w2 => e = .returned (.bool false) ∧ ∃ n, w2 = wr.drewN n) := fun q => Calls.quiet_of_same (rhas_val false au ns cs seen y _ (hS2.below ⟨rfl, rfl, rfl, Nat.le_refl _, fun _ _ => rfl⟩ (Nat.le_refl _)) hB)
              go_wp2
              go_quiet ((first | (go_at_call 40; with_reducible exact hF _) | (go_at_call 40; with_reducible exact hG _)))
              clear hA hB hF hG
              go_wp2
              go_roundw
              case rel => exact ⟨j + 1, by omega, by go_num, hnext, q0 + nq, by rw [Hw.out, World.drewN_drewN]⟩
              case measure => simp [intOf]; omega
            · have hr := hid (pairE_twice N seen x Hlen.out hbad.out (by rw [hf.out, ← Etj.out]; exact hno.out (by rw [hB]; rfl)))
              have hF : ∀ q, Calls Try.prog 40 #[.slice (some ⟨b, o, none⟩) j ce, .int .i64 y] (wr.drewN q) (fun e w2 => e = .returned (.bool false) ∧ ∃ n, w2 = wr.drewN n) := fun q => Calls.quiet_of_same (rhas_val false _ j ce tj y _ (hT.below ⟨rfl, rfl, rfl, Nat.le_refl _, fun _ _ => rfl⟩ (Nat.le_refl _)) hA)
              have hG : ∀ q, Calls Try.prog 40 #[.slice au ns cs, .int .i64 y] (wr.drewN q) (fun e w2 => e = .returned (.bool true) ∧ ∃ n, w2 = wr.drewN n) := fun q => Calls.quiet_of_same (rhas_val true au ns cs seen y _ (hS2.below ⟨rfl, rfl, rfl, Nat.le_refl _, fun _ _ => rfl⟩ (Nat.le_refl _)) hB)
              go_wp2
              go_quiet ((first | (go_at_call 40; with_reducible exact hF _) | (go_at_call 40; with_reducible exact hG _)))
              clear hA hB hF hG
              go_wp2
              go_ret
              exact ⟨ret_int (by rw [hr.out]), bQ _⟩
          · have hr := hid (pairE_twice N seen x Hlen.out hbad.out (by rw [hf.out, ← Etj.out]; exact hno.out (by rw [hA, Bool.or_true])))
            have hF : ∀ q, Calls Try.prog 40 #[.slice (some ⟨b, o, none⟩) j ce, .int .i64 y] (wr.drewN q) (fun e w2 => e = .returned (.bool true) ∧ ∃ n, w2 = wr.drewN n) := fun q => Calls.quiet_of_same (rhas_val true _ j ce tj y _ (hT.below ⟨rfl, rfl, rfl, Nat.le_refl _, fun _ _ => rfl⟩ (Nat.le_refl _)) hA)
            go_wp2
            go_quiet ((go_at_call 40; with_reducible exact hF _))
            clear hA hF
            go_wp2
            go_ret
            exact ⟨ret_int (by rw [hr.out]), bQ _⟩
        · obtain rfl : j = k := by omega
          have hr := hid (pairE_ok N seen _ x Hlen.out hbad.out (by rw [hf.out]; exact seatsE_end _ x j (by rw [hl.out]; exact Nat.le_refl _)))
          go_wp2
          go_ret
          exact ⟨ret_int (by rw [hr.out]), bR⟩
theorem rpairing_any (ae au : Option Addr) (me ce ns cs : Nat) (N : Int) (seen x : List Int) (w : World) (hE : HeldL IntC w ae me ce x) (hS : HeldL IntC w au ns cs seen) :
    Calls Try.prog 45 #[.agg #[.slice ae me ce], .int .i64 N, .slice au ns cs] w fun e w' => e = .returned (.int .i64 (pairE N seen x).1) ∧ Below w.heap.size w w' := by
  by_cases h : me < 1 ∨ 4 < me
  · exact rpairing_len ae au me ce ns cs N seen x w h hE.len
  · obtain ⟨b, o, rfl⟩ := hE.head (by omega)
    exact rpairing_some b o me ce au ns cs N seen x w (by omega) (by omega) hE hS
end Go.Proofs.Ytkdfplnoldckgaa
