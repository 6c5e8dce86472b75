/-
  The walks of few and of the law ScheduleDoubles.
-/
import Derived.Test.YtkdfplnoldckgaaRows
import Derived.Test.YtkdfplnoldckgaaSMem
import Derived.Test.YtkdfplnoldckgaaSPlain9
import Derived.Test.YtkdfplnoldckgaaS1
import Derived.Test.YtkdfplnoldckgaaS18
import Derived.Test.YtkdfplnoldckgaaS23
import Derived.Test.YtkdfplnoldckgaaS24
import Derived.Test.YtkdfplnoldckgaaS25
import Derived.WalkKit
import Derived.ProofKit
import Derived.OpenShut
import Derived.Outline
namespace Go.Proofs.Ytkdfplnoldckgaa
open Go.ChangeShapes Go.WideShapes Go.ChangeAt Go.RowKit

def okR (r : List (List Int)) : Bool := shortB r && decide (r.length ≤ 20)
def fewB (L : List (List (List Int))) : Bool := decide (L.length ≤ 60) && L.all okR
theorem fewB_long (L : List (List (List Int))) (h : 60 < L.length) : fewB L = false := by
  unfold fewB; rw [decide_eq_false (by omega)]; rfl
theorem fewB_bad (L : List (List (List Int))) (k : Nat) (hk : k < L.length) (h : okR (L.getD k []) = false) : fewB L = false := by
  unfold fewB
  have : L.all okR = false := by
    rw [List.all_eq_false]
    exact ⟨L.getD k [], getD_mem hk, by rw [h]; decide⟩
  rw [this, Bool.and_false]
theorem fewB_end (L : List (List (List Int))) (h0 : L.length ≤ 60) (h : ∀ i, i < L.length → okR (L.getD i []) = true) : fewB L = true := by
  unfold fewB
  have : L.all okR = true := by
    rw [List.all_eq_true]
    intro l hl
    obtain ⟨i, hi, e⟩ := List.getElem_of_mem hl
    have := h i hi
    rw [List.getD_eq_getElem?_getD, List.getElem?_eq_getElem hi] at this
    rw [← e]; simpa using this
  rw [this, decide_eq_true h0]; rfl
theorem fewB_modest (L : List (List (List Int))) (h : fewB L = true) : Modest49 L := by
  unfold fewB at h
  rw [Bool.and_eq_true, decide_eq_true_eq, List.all_eq_true] at h
  refine ⟨by omega, fun r hr => ?_⟩
  have h2 := h.2 r hr
  unfold okR at h2
  rw [Bool.and_eq_true, decide_eq_true_eq] at h2
  refine ⟨by omega, fun p hp => ?_⟩
  have h3 := h2.1
  unfold shortB at h3
  rw [Bool.and_eq_true, List.all_eq_true] at h3
  have := h3.1 p hp
  simp at this
  omega
theorem few_none (ad : Option Addr) (cap : Nat) (w : World) : Calls Try.prog 19 #[.slice ad 0 cap] w fun e w' => e = .returned (.bool (fewB [])) ∧ w' = w := by
  rw [show fewB [] = true from rfl]
  go_enter Try.func19, Try.ntmps19
  go_wp2
  refine wp_loop_rounds 1 ?_
  rw [rounds_succ]
  go_wp2
  go_ret
  exact ⟨rfl, rfl⟩
set_option maxHeartbeats 1000000 in
theorem few_some (b o n cap : Nat) (L : List (List (List Int))) (w : World) (h : HeldL RoundC w (some ⟨b, o, none⟩) n cap L) : Calls Try.prog 19 #[.slice (some ⟨b, o, none⟩) n cap] w fun e w' => e = .returned (.bool (fewB L)) ∧ w' = w := by
  have hle := h.le
  have hmx := h.max
  have hl := hid h.len
  by_cases h60 : (60 : Int) < n
  · have hr := hid (fewB_long L (by rw [hl.out]; omega))
    go_enter Try.func19, Try.ntmps19
    go_wp2
    go_ret
    exact ⟨ret_bool hr.out.symm, rfl⟩
  go_enter Try.func19, Try.ntmps19
  go_wp2
  go_loop [3] (fun i => ∃ k : Nat, k ≤ n ∧ i = .int .i64 k ∧ Hid (∀ i, i < k → okR (L.getD i []) = true)) (fun i => n - (intOf i).toNat)
  case atStart => exact ⟨0, Nat.zero_le _, rfl, hid (fun i hi => by omega)⟩
  case round =>
    obtain ⟨k, hk, rfl, hf⟩ := hrel
    by_cases hlt : k < n
    · obtain ⟨ae, me, ce, hc, hE⟩ := h.elem k hlt
      have hk0 : (0 : Int) ≤ k := by omega
      have hkn : (k : Int) < n := by omega
      have hxl := hid hE.len
      obtain ⟨r, er⟩ : ∃ r, r = L.getD k [] := ⟨_, rfl⟩
      rw [← er] at hE hxl
      have Er := hid er
      clear h er
      go_wp2_with fail
      refine (short_any ae me ce r _ hE).mono ?_
      rintro e w0 ⟨rfl, rfl⟩
      clear hE
      cases hS : shortB r
      · have hr := hid (fewB_bad L k (by rw [hl.out]; exact hlt) (by rw [← Er.out]; unfold okR; rw [hS]; rfl))
        clear hS
        go_wp2
        go_ret
        exact ⟨ret_bool hr.out.symm, rfl⟩
      · by_cases h20 : (20 : Int) < me
        · have hr := hid (fewB_bad L k (by rw [hl.out]; exact hlt) (by rw [← Er.out]; unfold okR; rw [hS, hxl.out, decide_eq_false (by omega)]; rfl))
          clear hS
          go_wp2
          go_ret
          exact ⟨ret_bool hr.out.symm, rfl⟩
        · have hok := hid (show okR (L.getD k []) = true by rw [← Er.out]; unfold okR; rw [hS, hxl.out, decide_eq_true (by omega)]; rfl)
          clear hS
          go_wp2
          go_round
          case rel => exact ⟨k + 1, by omega, by go_num, hid (fun i hi => by
            by_cases e : i < k
            · exact hf.out i e
            · rw [show i = k by omega]; exact hok.out)⟩
          case measure => simp [intOf]; omega
    · obtain rfl : n = k := by omega
      have hr := hid (fewB_end L (by rw [hl.out]; omega) (fun i hi => hf.out i (by rw [← hl.out]; exact hi)))
      go_wp2
      go_ret
      exact ⟨ret_bool hr.out.symm, rfl⟩
theorem few_any (ad : Option Addr) (n cap : Nat) (L : List (List (List Int))) (w : World) (h : HeldL RoundC w ad n cap L) : Calls Try.prog 19 #[.slice ad n cap] w fun e w' => e = .returned (.bool (fewB L)) ∧ w' = w := by
  by_cases h0 : n = 0
  · subst h0
    obtain rfl : L = [] := List.eq_nil_of_length_eq_zero h.len
    exact few_none ad cap w
  · obtain ⟨b, o, rfl⟩ := h.head (by omega)
    exact few_some b o n cap L w h
set_option maxHeartbeats 1000000 in
theorem doubles_any (ad : Option Addr) (n cap : Nat) (L : List (List (List Int))) (w : World) (h : HeldL RoundC w ad n cap L) :
    Calls Try.prog 6 #[.slice ad n cap] w fun e w' => e = .returned (.bool true) ∧ Below w.heap.size w w' := by
  go_enter Try.func6, Try.ntmps6
  go_wp2_with fail
  refine (few_any ad n cap L _ h).mono ?_
  rintro e w0 ⟨rfl, rfl⟩
  cases hS : fewB L
  · go_wp2_with fail
    refine (awake_any _).mono ?_
    rintro e w1 ⟨rfl, b1⟩
    go_wp2
    go_ret
    exact ⟨rfl, b1⟩
  · have hM := hid (fewB_modest L hS)
    clear hS
    go_wp2_with fail
    refine (double_any ad n cap L _ hM.out h).mono ?_
    rintro e w1 ⟨v1, rfl, own1, b1⟩
    obtain ⟨l, el⟩ : ∃ l, l = dblL L := ⟨_, rfl⟩
    rw [← el] at own1
    obtain ⟨a1, p1, rfl, hh1⟩ := own1.slice
    obtain ⟨n1, en1⟩ : ∃ n1, n1 = l.length := ⟨_, rfl⟩
    rw [← en1] at hh1 ⊢
    have El := hid el
    have En1 := hid en1
    have h1' := h.below b1 (Nat.le_refl _)
    clear own1 el en1
    go_wp2_with fail
    refine (rdouble_any ad n cap L _ hM.out h1').mono ?_
    rintro e w2 ⟨v2, rfl, own2, b2⟩
    rw [← El.out] at own2
    obtain ⟨a2, p2, rfl, hh2⟩ := own2.slice
    rw [← En1.out] at hh2 ⊢
    have hh3 := hh1.below b2 (Nat.le_refl _)
    have b12 := b1.trans (b2.mono b1.size)
    clear own2 hh1 b1 b2 h1'
    go_wp2_with fail
    refine (same_any a1 a2 n1 n1 p1 p2 l _ hh3 hh2).mono ?_
    rintro e w3 ⟨rfl, q, hq⟩
    have b3 : Below w2.heap.size w2 w3 := by rw [hq]; exact ⟨rfl, rfl, rfl, Nat.le_refl _, fun _ _ => rfl⟩
    have b13 := b12.trans (b3.mono b12.size)
    clear hq b3 hh2 hh3 b12
    go_wp2_with fail
    refine (awake_any _).mono ?_
    rintro e w4 ⟨rfl, b4⟩
    have b14 := b13.trans (b4.mono b13.size)
    clear b13 b4
    go_wp2
    go_ret
    exact ⟨rfl, b14⟩
end Go.Proofs.Ytkdfplnoldckgaa
