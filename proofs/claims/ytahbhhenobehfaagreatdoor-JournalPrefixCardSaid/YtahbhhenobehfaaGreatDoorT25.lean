/-
  The walk of roundly of the reference.
-/
import Derived.Test.YtahbhhenobehfaaGreatDoorT23
import Derived.Test.YtahbhhenobehfaaGreatDoorT6
namespace Go.Proofs.YtahbhhenobehfaaGreatDoor
open Go.ChangeShapes Go.WideShapes Go.ChangeAt Go.RowKit

theorem roundB_g {x : Rnd} (h : x.joint.all (groundB 4) = false) : roundB x = false := by unfold roundB; rw [h]; simp
theorem roundB_w {x : Rnd} (h : withinB x.faults 3 = false) : roundB x = false := by unfold roundB; rw [h]; simp
theorem roundB_ok {x : Rnd} (h1 : x.joint.length ≤ 4) (h2 : x.faults.length ≤ 4) (h3 : withinB x.faults 3 = true) (h4 : x.joint.all (groundB 4) = true) : roundB x = true := by rw [roundB_3 h1 h2, h3, h4]; rfl
theorem withinB_bad {l : List Int} {K : Int} (k : Nat) (hk : k < l.length) (h : ¬ 0 ≤ l.getD k 0 ∨ ¬ l.getD k 0 ≤ K) : withinB l K = false :=
  allP_bad k hk (by
    rw [← getD_int k hk]
    rcases h with h | h
    · rw [decide_eq_false h]; rfl
    · rw [decide_eq_false h]; simp)
theorem withinB_ok {l : List Int} {K : Int} (h : ∀ i, i < l.length → 0 ≤ l.getD i 0 ∧ l.getD i 0 ≤ K) : withinB l K = true :=
  allP_to fun i hi => by
    have := h i hi
    rw [getD_int i hi] at this
    rw [decide_eq_true this.1, decide_eq_true this.2]; rfl
set_option maxRecDepth 20000 in
set_option maxHeartbeats 8000000 in
theorem roundly_any (x : Rnd) (aj : Option Addr) (nj cj : Nat) (af : Option Addr) (nf cf : Nat) (w : World) (hj : TmsAt w aj nj cj x.joint) (hf : HeldL IntC w af nf cf x.faults) :
    Calls Tryz.prog 25 #[.agg #[.slice aj nj cj, .slice af nf cf]] w fun e w' => e = .returned (.bool (roundB x)) ∧ Below w.heap.size w w' := by
  have b0 := (Below.refl w.heap.size w).alloc (Nat.le_refl _) (.cells #[.slice aj nj cj, .slice af nf cf] 45)
  have H0 := Has.new w #[.slice aj nj cj, .slice af nf cf] 45
  have hl1 := hid hj.len
  have hl2 := hid hf.len
  have hjle := hj.le
  have hjmx := hj.max
  have hfle := hf.le
  have hfmx := hf.max
  by_cases h1 : nj ≤ 4
  case neg =>
    have h1i : (4 : Int) < nj := by omega
    have hB := hid (roundB_1 (x := x) (by rw [hl1.out]; exact h1))
    clear H0 hj hf
    go_enter Tryz.func25, Tryz.ntmps25
    go_wp2
    go_ret
    exact ⟨ret_boolv hB.out.symm, b0⟩
  have h1i : ¬ (4 : Int) < nj := by omega
  by_cases h2 : nf ≤ 4
  case neg =>
    have h2i : (4 : Int) < nf := by omega
    have hB := hid (roundB_2 (x := x) (by rw [hl2.out]; exact h2))
    clear H0 hj hf
    go_enter Tryz.func25, Tryz.ntmps25
    go_wp2
    go_ret
    exact ⟨ret_boolv hB.out.symm, b0⟩
  have h2i : ¬ (4 : Int) < nf := by omega
  go_enter Tryz.func25, Tryz.ntmps25
  go_wp2
  obtain ⟨w0, ew0⟩ : ∃ w0, w0 = w.alloc (.cells #[.slice aj nj cj, .slice af nf cf] 45) := ⟨_, rfl⟩
  rw [← ew0] at b0 H0
  rw [← ew0]
  clear ew0
  have hz : w.heap.size < w0.heap.size := H0.lt
  go_loopw [18] (fun i wr => ∃ k : Nat, k ≤ nj ∧ i = .int .i64 k ∧ Hid (∀ j (hj : j < x.joint.length), j < k → groundB 4 x.joint[j] = true) ∧ Below w0.heap.size w0 wr) (fun i _ => nj - (intOf i).toNat)
  case atStart => exact ⟨0, Nat.zero_le _, rfl, hid (fun j hj h => by omega), Below.refl _ _⟩
  case round =>
    obtain ⟨k, hk, rfl, hso, hb⟩ := hrel
    have hbT := b0.trans (hb.mono b0.size)
    have c0 := (H0.below hb hz).cell (j := 0) rfl
    have c1 := (H0.below hb hz).cell (j := 1) rfl
    by_cases hlt : k < nj
    · have hk0 : (0 : Int) ≤ k := by omega
      have hkn : (k : Int) < nj := by omega
      have hki := hid (show k < x.joint.length by rw [hl1.out]; exact hlt)
      have hr := hj.below hbT (Nat.le_refl _)
      obtain ⟨b, o, rfl⟩ := hr.head (by omega)
      obtain ⟨m, l2, ad2, n2, cap2, e2, hm, d1, d2, h2⟩ := hr.at' k hki.out
      have E2 := hid e2
      clear e2 hr
      go_wp2_with fail
      refine (rground_any m ad2 n2 cap2 l2 _ hm h2).mono ?_
      rintro e w1 ⟨rfl, o1⟩
      have b1 := hb.trans (o1.mono hb.size)
      have b1T := b0.trans (b1.mono b0.size)
      obtain ⟨g, eg⟩ : ∃ g, g = groundB 4 (.mk m l2) := ⟨_, rfl⟩
      rw [← eg]
      have Eg := hid eg
      clear eg c0 c1 d1 d2 h2 o1
      cases g
      · go_wp2
        go_ret
        exact ⟨ret_boolv (roundB_g (allP_bad k hki.out (by rw [E2.out]; exact Eg.out.symm))).symm, b1T⟩
      · go_wp2
        go_roundw
        case rel => exact ⟨k + 1, by omega, by go_num, hid (fun j hj h => by
          rcases Nat.lt_succ_iff_lt_or_eq.mp h with h | h
          · exact hso.out j hj h
          · subst h; rw [E2.out]; exact Eg.out.symm), b1⟩
        case measure => simp [intOf]; omega
    · obtain rfl : nj = k := by omega
      have hG := hid (show x.joint.all (groundB 4) = true from allP_to fun i hi => hso.out i hi (by rw [← hl1.out]; exact hi))
      have hr := hf.below hbT (Nat.le_refl _)
      clear hso
      go_wp2
      go_loop [32] (fun i => ∃ k : Nat, k ≤ nf ∧ i = .int .i64 k ∧ Hid (∀ j, j < k → 0 ≤ x.faults.getD j 0 ∧ x.faults.getD j 0 ≤ 3)) (fun i => nf - (intOf i).toNat)
      case atStart => exact ⟨0, Nat.zero_le _, rfl, hid (fun j hj => by omega)⟩
      case round =>
        obtain ⟨k, hk, rfl, hso⟩ := hrel
        by_cases hlt : k < nf
        · have hk0 : (0 : Int) ≤ k := by omega
          have hkn : (k : Int) < nf := by omega
          have hki := hid (show k < x.faults.length by rw [hl2.out]; exact hlt)
          obtain ⟨b2, o2, rfl⟩ := hr.head (by omega)
          have hc := hr.int k hlt
          obtain ⟨v, ev⟩ : ∃ v, v = x.faults.getD k 0 := ⟨_, rfl⟩
          rw [← ev] at hc
          have Ev := hid ev
          clear ev
          by_cases h0 : 0 ≤ v
          · have h0i : ¬ v < 0 := by omega
            by_cases h3 : v ≤ 3
            · have h3i : ¬ 3 < v := by omega
              go_wp2
              go_round
              case rel => exact ⟨k + 1, by omega, by go_num, hid (fun j hj => by
                rcases Nat.lt_succ_iff_lt_or_eq.mp hj with h | h
                · exact hso.out j h
                · subst h; rw [← Ev.out]; exact ⟨h0, h3⟩)⟩
              case measure => simp [intOf]; omega
            · have h3i : 3 < v := by omega
              have hn := hid h3
              clear h3
              go_wp2
              go_ret
              exact ⟨ret_boolv (roundB_w (withinB_bad k hki.out (Or.inr (by rw [← Ev.out]; have := hn.out; omega)))).symm, hbT⟩
          · have h0i : v < 0 := by omega
            have hn := hid h0
            clear h0
            go_wp2
            go_ret
            exact ⟨ret_boolv (roundB_w (withinB_bad k hki.out (Or.inl (by rw [← Ev.out]; have := hn.out; omega)))).symm, hbT⟩
        · obtain rfl : nf = k := by omega
          have hfin := hid (show roundB x = true from roundB_ok (by rw [hl1.out]; exact h1) (by rw [hl2.out]; exact h2) (withinB_ok fun i hi => hso.out i (by rw [← hl2.out]; exact hi)) hG.out)
          go_wp2
          go_ret
          exact ⟨ret_boolv hfin.out.symm, hbT⟩
end Go.Proofs.YtahbhhenobehfaaGreatDoor
