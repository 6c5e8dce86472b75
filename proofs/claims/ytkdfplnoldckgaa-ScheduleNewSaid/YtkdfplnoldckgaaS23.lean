/-
  The walks of short and of the law ScheduleSwisses.
-/
import Derived.Test.YtkdfplnoldckgaaRows
import Derived.Test.YtkdfplnoldckgaaSMem
import Derived.Test.YtkdfplnoldckgaaS1
import Derived.Test.YtkdfplnoldckgaaS17
import Derived.Test.YtkdfplnoldckgaaS18
import Derived.Test.YtkdfplnoldckgaaS22
import Derived.WalkKit
import Derived.ProofKit
import Derived.OpenShut
import Derived.Outline
namespace Go.Proofs.Ytkdfplnoldckgaa
open Go.ChangeShapes Go.WideShapes Go.ChangeAt Go.RowKit

def shortB (L : List (List Int)) : Bool := L.all (fun l => decide (l.length ≤ 8)) && decide (L.length ≤ 200)
theorem shortB_long (L : List (List Int)) (k : Nat) (hk : k < L.length) (h : 8 < (L.getD k []).length) : shortB L = false := by
  unfold shortB
  have : (L.all fun l => decide (l.length ≤ 8)) = false := by
    rw [List.all_eq_false]
    exact ⟨L.getD k [], getD_mem hk, by simpa using h⟩
  rw [this]; rfl
theorem shortB_end (L : List (List Int)) (h : ∀ i, i < L.length → (L.getD i []).length ≤ 8) : shortB L = decide (L.length ≤ 200) := by
  unfold shortB
  have : (L.all fun l => decide (l.length ≤ 8)) = true := by
    rw [List.all_eq_true]
    intro l hl
    obtain ⟨i, hi, e⟩ := List.getElem_of_mem hl
    have := h i hi
    rw [List.getD_eq_getElem?_getD, List.getElem?_eq_getElem hi] at this
    rw [← e]; simpa using this
  rw [this, Bool.true_and]
theorem short_none (ad : Option Addr) (cap : Nat) (w : World) : Calls Try.prog 14 #[.slice ad 0 cap] w fun e w' => e = .returned (.bool (shortB [])) ∧ w' = w := by
  rw [show shortB [] = true from rfl]
  go_enter Try.func14, Try.ntmps14
  go_wp2
  refine wp_loop_rounds 1 ?_
  rw [rounds_succ]
  go_wp2
  go_ret
  exact ⟨rfl, rfl⟩
theorem short_some (b o n cap : Nat) (L : List (List Int)) (w : World) (h : HeldL IntsC w (some ⟨b, o, none⟩) n cap L) : Calls Try.prog 14 #[.slice (some ⟨b, o, none⟩) n cap] w fun e w' => e = .returned (.bool (shortB L)) ∧ w' = w := by
  have hle := h.le
  have hmx := h.max
  have hl := hid h.len
  go_enter Try.func14, Try.ntmps14
  go_wp2
  go_loop [3] (fun i => ∃ k : Nat, k ≤ n ∧ i = .int .i64 k ∧ Hid (∀ i, i < k → (L.getD i []).length ≤ 8)) (fun i => n - (intOf i).toNat)
  case atStart => exact ⟨0, Nat.zero_le _, rfl, hid (fun i hi => by omega)⟩
  case round =>
    obtain ⟨k, hk, rfl, hf⟩ := hrel
    by_cases hlt : k < n
    · obtain ⟨ae, me, ce, hc, hE⟩ := h.elem k hlt
      have hk0 : (0 : Int) ≤ k := by omega
      have hkn : (k : Int) < n := by omega
      have hxl := hid hE.len
      clear hE h
      by_cases h8 : (8 : Int) < me
      · have hr := hid (shortB_long L k (by rw [hl.out]; exact hlt) (by rw [hxl.out]; omega))
        go_wp2
        go_ret
        exact ⟨ret_bool hr.out.symm, rfl⟩
      · go_wp2
        go_round
        case rel => exact ⟨k + 1, by omega, by go_num, hid (fun i hi => by
          by_cases e : i < k
          · exact hf.out i e
          · rw [show i = k by omega, hxl.out]; omega)⟩
        case measure => simp [intOf]; omega
    · obtain rfl : n = k := by omega
      have hr := hid (shortB_end L (fun i hi => hf.out i (by rw [← hl.out]; exact hi)))
      have hz : (decide (L.length ≤ 200)) = decide ((n : Int) ≤ 200) := by rw [hl.out]; exact decide_eq_decide.2 (by omega)
      have Hz := hid hz
      clear hz
      go_wp2
      go_ret
      exact ⟨ret_bool (by rw [hr.out, Hz.out]), rfl⟩
theorem short_any (ad : Option Addr) (n cap : Nat) (L : List (List Int)) (w : World) (h : HeldL IntsC w ad n cap L) : Calls Try.prog 14 #[.slice ad n cap] w fun e w' => e = .returned (.bool (shortB L)) ∧ w' = w := by
  by_cases h0 : n = 0
  · subst h0
    obtain rfl : L = [] := List.eq_nil_of_length_eq_zero h.len
    exact short_none ad cap w
  · obtain ⟨b, o, rfl⟩ := h.head (by omega)
    exact short_some b o n cap L w h
set_option maxHeartbeats 1000000 in
theorem swisses_any (ad ap : Option Addr) (n cap np cp : Nat) (s : Int) (ps : List Int) (L : List (List Int)) (w : World) (h : StdAt w ad n ps) (hp : HeldL IntsC w ap np cp L) :
    Calls Try.prog 4 #[.slice ad n cap, .slice ap np cp, .int .i64 s] w fun e w' => e = .returned (.bool true) ∧ Below w.heap.size w w' := by
  by_cases h1 : 8 < n ∧ n ≤ 16
  · have h3 : (8 : Int) < n := by omega
    have h4 : (n : Int) ≤ 16 := by omega
    go_enter Try.func4, Try.ntmps4
    go_wp2_with fail
    refine (awake_any _).mono ?_
    rintro e w1 ⟨rfl, b1⟩
    go_wp2
    go_ret
    exact ⟨rfl, b1⟩
  by_cases h2 : 100 < n
  · have h3 : (8 : Int) < n := by omega
    have h4 : ¬ (n : Int) ≤ 16 := by omega
    have h5 : (100 : Int) < n := by omega
    go_enter Try.func4, Try.ntmps4
    go_wp2_with fail
    refine (awake_any _).mono ?_
    rintro e w1 ⟨rfl, b1⟩
    go_wp2
    go_ret
    exact ⟨rfl, b1⟩
  have h5 : (n : Int) ≤ 100 := by omega
  have h6 : decide ((100 : Int) < n) = false := by simp; omega
  rcases (show (n : Int) ≤ 8 ∨ (8 : Int) < n ∧ ¬ (n : Int) ≤ 16 by omega) with h7 | ⟨h7, h8⟩
  all_goals
    go_enter Try.func4, Try.ntmps4
    go_wp2_with fail
    refine (short_any ap np cp L _ hp).mono ?_
    rintro e w0 ⟨rfl, rfl⟩
    cases hS : shortB L
    · go_wp2_with fail
      refine (awake_any _).mono ?_
      rintro e w1 ⟨rfl, b1⟩
      go_wp2
      go_ret
      exact ⟨rfl, b1⟩
    · go_wp2_with fail
      refine (swiss_any ad ap n cap np cp s ps L _ h hp).mono ?_
      rintro e w1 ⟨v1, rfl, own1, b1⟩
      obtain ⟨c, ec⟩ : ∃ c, c = (swiss ps L s).1 := ⟨_, rfl⟩
      obtain ⟨l, el⟩ : ∃ l, l = (swiss ps L s).2 := ⟨_, rfl⟩
      rw [← el] at own1
      rw [← ec]
      obtain ⟨a1, p1, rfl, hh1⟩ := own1.slice
      obtain ⟨n1, en1⟩ : ∃ n1, n1 = l.length := ⟨_, rfl⟩
      rw [← en1] at hh1 ⊢
      have Ec := hid ec
      have El := hid el
      have En1 := hid en1
      have h1' := h.below b1 (Nat.le_refl _)
      have hp1 := hp.below b1 (Nat.le_refl _)
      clear own1 ec el en1
      go_wp2_with fail
      refine (rswiss_any ad ap n cap np cp s ps L _ h1' hp1).mono ?_
      rintro e w2 ⟨v2, rfl, own2, b2⟩
      rw [← El.out] at own2
      rw [← Ec.out]
      obtain ⟨a2, p2, rfl, hh2⟩ := own2.slice
      rw [← En1.out] at hh2 ⊢
      have hh3 := hh1.below b2 (Nat.le_refl _)
      have b12 := b1.trans (b2.mono b1.size)
      clear own2 hh1 b1 b2 h1' hp1
      go_wp2_with fail
      refine (round_any a1 a2 n1 n1 p1 p2 l _ hh3 hh2).mono ?_
      rintro e w3 ⟨rfl, q, hq⟩
      have b3 : Below w2.heap.size w2 w3 := by rw [hq]; exact ⟨rfl, rfl, rfl, Nat.le_refl _, fun _ _ => rfl⟩
      have b13 := b12.trans (b3.mono b12.size)
      clear hq b3 hh2 hh3 b12
      go_wp2_with fail
      refine (awake_any _).mono ?_
      rintro e w4 ⟨rfl, b4⟩
      have b14 := b13.trans (b4.mono b13.size)
      clear b13 b4
      go_wp2
      go_ret
      exact ⟨rfl, b14⟩
end Go.Proofs.Ytkdfplnoldckgaa
