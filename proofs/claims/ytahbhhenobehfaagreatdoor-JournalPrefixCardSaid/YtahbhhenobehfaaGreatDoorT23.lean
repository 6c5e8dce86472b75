/-
  The walks of roundFormed and of the search for a round that is not.
-/
import Derived.Test.YtahbhhenobehfaaGreatDoorT22
namespace Go.Proofs.YtahbhhenobehfaaGreatDoor
open Go.ChangeShapes Go.WideShapes Go.ChangeAt Go.RowKit

def roundB (x : Rnd) : Bool := decide (x.joint.length ≤ 4) && (decide (x.faults.length ≤ 4) && (withinB x.faults 3 && x.joint.all (groundB 4)))
theorem roundB_1 {x : Rnd} (h : ¬ x.joint.length ≤ 4) : roundB x = false := by unfold roundB; rw [decide_eq_false h]; rfl
theorem roundB_2 {x : Rnd} (h : ¬ x.faults.length ≤ 4) : roundB x = false := by unfold roundB; rw [decide_eq_false h]; simp
theorem roundB_3 {x : Rnd} (h1 : x.joint.length ≤ 4) (h2 : x.faults.length ≤ 4) : roundB x = (withinB x.faults 3 && x.joint.all (groundB 4)) := by unfold roundB; rw [decide_eq_true h1, decide_eq_true h2]; rfl
set_option maxRecDepth 20000 in
set_option maxHeartbeats 4000000 in
theorem roundFormed_any (x : Rnd) (aj : Option Addr) (nj cj : Nat) (af : Option Addr) (nf cf : Nat) (w : World) (hj : TmsAt w aj nj cj x.joint) (hf : HeldL IntC w af nf cf x.faults) :
    Calls Tryz.prog 67 #[.agg #[.slice aj nj cj, .slice af nf cf]] w fun e w' => e = .returned (.bool (roundB x)) ∧ Below w.heap.size w w' := by
  have b0 := (Below.refl w.heap.size w).alloc (Nat.le_refl _) (.cells #[.slice aj nj cj, .slice af nf cf] 45)
  have H0 := Has.new w #[.slice aj nj cj, .slice af nf cf] 45
  have hl1 := hid hj.len
  have hl2 := hid hf.len
  have hj0 := hj.below b0 (Nat.le_refl _)
  have hf0 := hf.below b0 (Nat.le_refl _)
  clear hj hf
  by_cases h1 : nj ≤ 4
  · have h1i : (nj : Int) ≤ 4 := by omega
    by_cases h2 : nf ≤ 4
    · have h2i : (nf : Int) ≤ 4 := by omega
      have hB := hid (roundB_3 (x := x) (by rw [hl1.out]; exact h1) (by rw [hl2.out]; exact h2))
      go_enter Tryz.func67, Tryz.ntmps67
      go_wp2_with fail
      refine (within_int af nf cf x.faults 3 _ hf0).mono ?_
      rintro e w1 ⟨rfl, o1⟩
      have c0 := (H0.below o1 H0.lt).cell (j := 0) rfl
      have hj1 := hj0.below o1 (Nat.le_refl _)
      have b1 := b0.trans (o1.mono b0.size)
      obtain ⟨g, eg⟩ : ∃ g, g = withinB x.faults 3 := ⟨_, rfl⟩
      rw [← eg]
      have Eg := hid eg
      clear eg H0 hj0 hf0 o1
      cases g
      · go_wp2
        go_ret
        exact ⟨ret_boolv (by rw [hB.out, ← Eg.out]; rfl), b1⟩
      · go_wp2_with fail
        refine (containsTerm_any aj nj cj x.joint _ hj1).mono ?_
        rintro e w2 ⟨rfl, o2⟩
        have b2 := b1.trans (o2.mono b1.size)
        obtain ⟨g2, eg2⟩ : ∃ g2, g2 = x.joint.all (groundB 4) := ⟨_, rfl⟩
        rw [← eg2]
        have Eg2 := hid eg2
        clear eg2 hj1 o2 c0
        cases g2
        · rw [Bool.not_false]
          go_wp2
          go_ret
          exact ⟨ret_boolv (by rw [hB.out, ← Eg.out, ← Eg2.out]; rfl), b2⟩
        · rw [Bool.not_true]
          go_wp2
          go_ret
          exact ⟨ret_boolv (by rw [hB.out, ← Eg.out, ← Eg2.out]; rfl), b2⟩
    · have h2i : ¬ (nf : Int) ≤ 4 := by omega
      have hB := hid (roundB_2 (x := x) (by rw [hl2.out]; exact h2))
      clear H0 hj0 hf0
      go_enter Tryz.func67, Tryz.ntmps67
      go_wp2
      go_ret
      exact ⟨ret_boolv hB.out.symm, b0⟩
  · have h1i : ¬ (nj : Int) ≤ 4 := by omega
    have hB := hid (roundB_1 (x := x) (by rw [hl1.out]; exact h1))
    clear H0 hj0 hf0
    go_enter Tryz.func67, Tryz.ntmps67
    go_wp2
    go_ret
    exact ⟨ret_boolv hB.out.symm, b0⟩
theorem bad_round (x : Rnd) (aj : Option Addr) (nj cj : Nat) (af : Option Addr) (nf cf : Nat) (w : World) (hj : TmsAt w aj nj cj x.joint) (hf : HeldL IntC w af nf cf x.faults) :
    Calls Tryz.prog 66 #[.agg #[.slice aj nj cj, .slice af nf cf]] w fun e w' => e = .returned (.bool (!roundB x)) ∧ Below w.heap.size w w' := by
  have b0 := (Below.refl w.heap.size w).alloc (Nat.le_refl _) (.cells #[.slice aj nj cj, .slice af nf cf] 45)
  have hj0 := hj.below b0 (Nat.le_refl _)
  have hf0 := hf.below b0 (Nat.le_refl _)
  go_enter Tryz.func66, Tryz.ntmps66
  go_wp2_with fail
  refine (roundFormed_any x aj nj cj af nf cf _ hj0 hf0).mono ?_
  rintro e w1 ⟨rfl, o1⟩
  have b1 := b0.trans (o1.mono b0.size)
  obtain ⟨g, eg⟩ : ∃ g, g = roundB x := ⟨_, rfl⟩
  rw [← eg]
  have Eg := hid eg
  clear eg hj0 hf0 hj hf
  cases g
  · go_wp2
    go_ret
    exact ⟨ret_boolv (by rw [← Eg.out]; rfl), b1⟩
  · go_wp2
    go_ret
    exact ⟨ret_boolv (by rw [← Eg.out]; rfl), b1⟩
set_option maxRecDepth 20000 in
set_option maxHeartbeats 4000000 in
theorem indexRound_any (ad : Option Addr) (n cap : Nat) (l : List Rnd) (w : World) (h : RndsAt w ad n cap l) :
    Calls Tryz.prog 89 #[.slice ad n cap, .func (.func 66) #[] #[]] w fun e w' => ∃ r, e = .returned (.int .i64 r) ∧ Found r (l.all roundB) ∧ Below w.heap.size w w' := by
  have hl := hid h.len
  have hle := h.le
  have hmx := h.max
  go_enter Tryz.func89, Tryz.ntmps89
  go_wp2
  go_loopw [8] (fun i wr => ∃ k : Nat, k ≤ n ∧ i = .int .i64 k ∧ Hid (∀ j (hj : j < l.length), j < k → roundB l[j] = true) ∧ Below w.heap.size w wr) (fun i _ => n - (intOf i).toNat)
  case atStart => exact ⟨0, Nat.zero_le _, rfl, hid (fun j hj h => by omega), Below.refl _ _⟩
  case round =>
    obtain ⟨k, hk, rfl, hso, hb⟩ := hrel
    by_cases hlt : k < n
    · have hk0 : (0 : Int) ≤ k := by omega
      have hkn : (k : Int) < n := by omega
      have hki := hid (show k < l.length by rw [hl.out]; exact hlt)
      have hr := h.below hb (Nat.le_refl _)
      obtain ⟨b, o, rfl⟩ := hr.head (by omega)
      obtain ⟨aj, nj, cj, af, nf, cf, c1, c2, hj, hf⟩ := hr.at' k hki.out
      obtain ⟨x, ex⟩ : ∃ x, x = l[k]'hki.out := ⟨_, rfl⟩
      rw [← ex] at hj hf
      have Ex := hid ex
      clear hr ex
      go_wp2_with fail
      refine (bad_round x aj nj cj af nf cf _ hj hf).mono ?_
      rintro e w1 ⟨rfl, o1⟩
      have b1 := hb.trans (o1.mono hb.size)
      obtain ⟨g, eg⟩ : ∃ g, g = roundB x := ⟨_, rfl⟩
      rw [← eg]
      have Eg := hid eg
      clear eg c1 c2 hj hf hb o1
      cases g
      · rw [Bool.not_false]
        go_wp2
        go_ret
        exact ⟨_, rfl, Found.some k (by omega) (allP_bad k hki.out (by rw [← Ex.out]; exact Eg.out.symm)), b1⟩
      · rw [Bool.not_true]
        go_wp2
        go_roundw
        case rel => exact ⟨k + 1, by omega, by go_num, hid (fun j hj h => by
          rcases Nat.lt_succ_iff_lt_or_eq.mp h with h | h
          · exact hso.out j hj h
          · subst h; rw [← Ex.out]; exact Eg.out.symm), b1⟩
        case measure => simp [intOf]; omega
    · obtain rfl : n = k := by omega
      go_wp2
      go_ret
      exact ⟨_, rfl, Found.none (allP_to fun i hi => hso.out i hi (by rw [← hl.out]; exact hi)), hb⟩
theorem containsRound_any (ad : Option Addr) (n cap : Nat) (l : List Rnd) (w : World) (h : RndsAt w ad n cap l) :
    Calls Tryz.prog 65 #[.slice ad n cap, .func (.func 66) #[] #[]] w fun e w' => e = .returned (.bool (!l.all roundB)) ∧ Below w.heap.size w w' := by
  go_enter Tryz.func65, Tryz.ntmps65
  go_wp2_with fail
  refine (indexRound_any ad n cap l w h).mono ?_
  rintro e w1 ⟨r, rfl, hf, b1⟩
  obtain ⟨h1, h2, h3⟩ := hf
  have H3 := hid h3
  clear h3
  go_wp2
  go_ret
  exact ⟨ret_boolv (by simpa using H3.out), b1⟩
theorem thousand_any (x : Int) (w : World) :
    Calls Tryz.prog 63 #[.int .i64 x] w fun e w' => e = .returned (.bool (decide (1 ≤ x) && decide (x ≤ 1000))) ∧ w' = w := by
  by_cases h1 : 1 ≤ x
  · by_cases h2 : x ≤ 1000
    · have e2 := hid (show (decide (1 ≤ x) && decide (x ≤ 1000)) = true by rw [decide_eq_true h1, decide_eq_true h2]; rfl)
      go_enter Tryz.func63, Tryz.ntmps63
      go_wp2
      go_ret
      exact ⟨ret_boolv (by first | exact e2.out.symm | exact (decide_eq_false (by omega)).symm | exact (decide_eq_true (by omega)).symm), rfl⟩
    · have e2 := hid (show (decide (1 ≤ x) && decide (x ≤ 1000)) = false by rw [decide_eq_false h2]; simp)
      go_enter Tryz.func63, Tryz.ntmps63
      go_wp2
      go_ret
      exact ⟨ret_boolv (by first | exact e2.out.symm | exact (decide_eq_false (by omega)).symm | exact (decide_eq_true (by omega)).symm), rfl⟩
  · have e2 := hid (show (decide (1 ≤ x) && decide (x ≤ 1000)) = false by rw [decide_eq_false h1]; simp)
    go_enter Tryz.func63, Tryz.ntmps63
    go_wp2
    go_ret
    exact ⟨ret_boolv (by first | exact e2.out.symm | exact (decide_eq_false (by omega)).symm | exact (decide_eq_true (by omega)).symm), rfl⟩
end Go.Proofs.YtahbhhenobehfaaGreatDoor
